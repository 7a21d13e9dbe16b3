/-
  YtachaigkgjadpaaP7: lemmas of this proof (part 7). No conditions.
-/
import Derived.Test.YtachaigkgjadpaaP6
import Derived.Test.YtachaigkgjadpaaP5

/-
  D11B: contracts of chapter 11's functions: Possible.
-/
namespace Go.GB.C11
open Go.GB
set_option linter.unusedSimpArgs false
set_option linter.unusedVariables false
set_option maxRecDepth 100000
set_option maxHeartbeats 2000000
variable {P : Program}

theorem bne_b (a b : Int) : (a != b) = !(a == b) := rfl
theorem rHas_ok (H : Pr P) (l : List Str) (hl : l.length ≤ 140737488355328) (s : Str) : FnOk P 61 [.t (.lst (l.map sE)), .t (.str s)] ⟨[], 0⟩ { v := .t (.bool (decide (s ∈ l))) } := by
  refine FnOk.run H.i61 H.mixed rfl rfl ?_
  refine fR rfl ?_
  refine rList l (fun i (_ : Unit) => { env := [(0, .t (.lst (l.map sE))), (1, .t (.str s)), (5, .t (.int .i64 i))], s := ⟨[], 0⟩ }) (fun r i _ => decide (s ∈ l) = decide (s ∈ r)) 0 () rfl rfl rfl rfl rfl ?_ ?_
  · intro _ hinv
    refine fR rfl ?_
    refine lM rfl rfl rfl ?_
    refine fM rfl ?_
    refine Run.condF rfl rfl (by simp) ?_
    refine fR rfl ?_
    refine Run.fin rfl (EndOk.go ?_); exact .t (by rw [hinv]; simp)
  · intro i x r _ h1 hi hd hinv ih
    refine fR rfl ?_
    refine lM rfl rfl rfl ?_
    refine fM rfl ?_
    refine Run.condT rfl rfl (by simp; omega) ?_
    refine fR rfl ?_
    refine Mid.elemMap rfl rfl rfl h1 rfl rfl ?_
    refine fM rfl ?_
    refine Run.cond rfl rfl (fun h => ?_) (fun h => ?_)
    · have h' : x = s := by simpa using h
      refine fR rfl ?_
      refine Run.fin rfl (EndOk.go ?_); exact .t (by rw [hinv]; simp [h'])
    · have h' : ¬ x = s := by simpa using h
      have h2 : ¬ s = x := fun e => h' e.symm
      refine fR rfl ?_
      refine aL rfl rfl rfl rfl rfl ?_
      refine fM rfl ?_
      exact rWeak 0 rfl (ih () (by rw [hinv]; simp [h2])) rfl rfl rfl

def memF (l : List Member) (n : Str) : Bool := l.any fun m => m.name == n
theorem member_ok (H : Pr P) (t : Def) (hl : t.members.length ≤ 140737488355328) (n : Str) : FnOk P 70 [t.v, .t (.str n)] ⟨[], 0⟩ { v := .t (.bool (memF t.members n)) } := by
  refine FnOk.run H.i70 H.mixed rfl rfl ?_
  refine fR rfl ?_
  refine rList t.members (fun i (_ : Unit) => { env := [(1, .t (.str n)), (2, .ptr 0 0), (5, .t (.int .i64 i))], s := ⟨[(0, .cells [.t (.int .i64 t.kind), .t (.str t.name), .t (.lst (t.implements.map sE)), .t (.lst (t.dirs.map Dir.enc)), .t (.lst (t.fields.map Field.enc)), .t (.lst (t.members.map Member.enc)), .t (.lst (t.inputs.map Input.enc))])], 1⟩ }) (fun r i _ => memF t.members n = memF r n) 1 () rfl rfl rfl rfl rfl ?_ ?_
  · intro _ hinv
    refine fR rfl ?_
    refine lM rfl rfl rfl ?_
    refine fM rfl ?_
    refine Run.condF rfl rfl (by simp) ?_
    refine fR rfl ?_
    refine Run.fin rfl (EndOk.go ?_); exact .t (by rw [hinv]; rfl)
  · intro i x r _ h1 hi hd hinv ih
    refine fR rfl ?_
    refine lM rfl rfl rfl ?_
    refine fM rfl ?_
    refine Run.condT rfl rfl (by simp; omega) ?_
    refine fR rfl ?_
    refine Mid.elemMap rfl rfl rfl h1 rfl rfl ?_
    refine fM rfl ?_
    refine Run.cond rfl rfl (fun h => ?_) (fun h => ?_)
    · refine fR rfl ?_
      refine Run.fin rfl (EndOk.go ?_); exact .t (by rw [hinv]; simp only [memF, List.any_cons, h, Bool.true_or])
    · refine fR rfl ?_
      refine aL rfl rfl rfl rfl rfl ?_
      refine fM rfl ?_
      exact rWeak 1 rfl (ih () (by rw [hinv]; simp only [memF, List.any_cons, h, Bool.false_or])) rfl rfl rfl

theorem implements_ok (H : Pr P) (t : Def) (ht : t.Ok) (n : Str) : FnOk P 55 [t.v, .t (.str n)] ⟨[], 0⟩ { v := .t (.bool (decide (n ∈ t.implements))) } := by
  refine FnOk.run H.i55 H.mixed rfl rfl ?_
  refine fR rfl ?_
  refine Mid.call (contains_ok H t.implements ht.il n) rfl rfl rfl rfl ?_
  refine fM rfl ?_
  refine Run.fin rfl (EndOk.go ?_); exact .t rfl

/-- no definition ahead has that name -/
def firstF (pre : List Def) (n : Str) : Bool := !(pre.any fun x => x.name == n)
theorem first_ok (H : Pr P) (ds : List Def) (hl : ds.length ≤ 140737488355328) (i : Nat) (x : Def) (h : ds[i]? = some x) : FnOk P 69 [docV ds, .t (.int .i64 i)] ⟨[], 0⟩ { v := .t (.bool (firstF (ds.take i) x.name)) } := by
  have hi : i < ds.length := (List.getElem?_eq_some_iff.1 h).1
  have hlt : (ds.take i).length = i := by simp; omega
  refine FnOk.run H.i69 H.mixed rfl rfl ?_
  refine fR rfl ?_
  refine rList (ds.take i) (fun j (_ : Unit) => { env := [(1, .t (.int .i64 i)), (2, .ptr 0 0), (5, .t (.int .i64 j))], s := ⟨[(0, .cells [.t (.lst (ds.map Def.enc))])], 1⟩ }) (fun r j _ => firstF (ds.take i) x.name = firstF r x.name) 1 () rfl rfl rfl rfl rfl ?_ ?_
  · intro _ hinv
    refine fR rfl ?_
    refine Run.condF rfl rfl (by rw [hlt]; simp) ?_
    refine fR rfl ?_
    refine Run.fin rfl (EndOk.go ?_); exact .t (by rw [hinv]; rfl)
  · intro j y r _ h2 hj hd hinv ih
    have h2' : ds[j]? = some y := by rw [List.getElem?_take] at h2; split at h2; exact h2; cases h2
    have hj' : j < i := by omega
    refine fR rfl ?_
    refine Run.condT rfl rfl (by simp; omega) ?_
    refine fR rfl ?_
    refine Mid.elemMap rfl rfl rfl h2' rfl rfl ?_
    refine fM rfl ?_
    refine Mid.elemMap rfl rfl rfl h rfl rfl ?_
    refine fM rfl ?_
    refine Run.cond rfl rfl (fun he => ?_) (fun he => ?_)
    · refine fR rfl ?_
      refine Run.fin rfl (EndOk.go ?_); exact .t (by rw [hinv]; simp only [firstF, List.any_cons, he, Bool.true_or, Bool.not_true])
    · refine fR rfl ?_
      refine aL rfl rfl rfl rfl rfl ?_
      refine fM rfl ?_
      exact rWeak 1 rfl (ih () (by rw [hinv]; simp only [firstF, List.any_cons, he, Bool.false_or])) rfl rfl rfl

/-- a possible type of a type -/
def isP (t : Def) (nm : Str) (o : Def) : Bool := (t.kind == 1 && o.name == nm) || (t.kind == 2 && decide (nm ∈ o.implements)) || (t.kind == 3 && memF t.members o.name)
/-- the possible types, by the reference -/
def posL (t : Def) (nm : Str) : List Def → List Def → List Str
  | _, [] => []
  | pre, o :: r => if (o.kind == 1 && firstF pre o.name && isP t nm o) = true then o.name :: posL t nm (pre ++ [o]) r else posL t nm (pre ++ [o]) r
def posF (ds : List Def) (nm : Str) : List Str :=
  match findDef nm ds with
  | none => []
  | some t => posL t nm [] ds
theorem docFind {ds : List Def} (hD : DocOk ds) (n : Str) : ((findDef n ds).getD Def.zero).Ok := by
  cases h : findDef n ds with
  | none => exact Def.zero_ok
  | some t => exact hD.d t (findDef_mem h)
theorem rPossible_ok (H : Pr P) (ds : List Def) (hD : DocOk ds) (nm : Str) : FnOk P 62 [docV ds, .t (.str nm)] ⟨[], 0⟩ { v := .t (.lst ((posF ds nm).map sE)) } := by
  have hl := hD.l
  have hlb := hD.lb
  have hT := docFind hD nm
  have hpos : posF ds nm = if (findDef nm ds).isSome = true then posL ((findDef nm ds).getD Def.zero) nm [] ds else [] := by
    unfold posF; cases findDef nm ds <;> rfl
  refine FnOk.run H.i62 H.mixed rfl rfl ?_
  refine fR rfl ?_
  refine Mid.call (rFind_ok H ds hl nm) rfl rfl rfl rfl ?_
  refine fM rfl ?_
  generalize (findDef nm ds).isSome = b at hpos
  generalize (findDef nm ds).getD Def.zero = t at hpos hT
  refine rList ds (fun i (B : List Str) => { env := [(1, .t (.str nm)), (2, .ptr 0 0), (5, .own 2 1 (B.map sE)), (6, .ptr 1 0), (7, .t (.bool b)), (8, .t (.int .i64 i))], s := ⟨[(0, .cells [.t (.lst (ds.map Def.enc))]), (1, .cells [.t (.int .i64 t.kind), .t (.str t.name), .t (.lst (t.implements.map sE)), .t (.lst (t.dirs.map Dir.enc)), .t (.lst (t.fields.map Field.enc)), .t (.lst (t.members.map Member.enc)), .t (.lst (t.inputs.map Input.enc))]), (2, .arr B.length)], 3⟩ }) (fun r i B => B.length ≤ i ∧ (b = false → B = []) ∧ posF ds nm = if b = true then B ++ posL t nm (ds.take i) r else []) 2 [] rfl ⟨by simp, fun _ => rfl, by rw [hpos]; simp⟩ rfl rfl rfl ?_ ?_
  · rintro B ⟨_, hB0, hB⟩
    cases b with
    | true =>
      obtain rfl : B = posF ds nm := by rw [hB]; simp [posL]
      refine fR rfl ?_
      refine lM rfl rfl rfl ?_
      refine fM rfl ?_
      refine Run.condF rfl rfl (by simp) ?_
      refine fR rfl ?_
      refine Run.fin rfl (EndOk.go ?_); exact .own rfl
    | false =>
      obtain rfl : B = [] := hB0 rfl
      have hB' : posF ds nm = [] := by simpa using hB
      refine fR rfl ?_
      refine lM rfl rfl rfl ?_
      refine fM rfl ?_
      refine Run.condF rfl rfl (by simp) ?_
      refine fR rfl ?_
      rw [hB']
      refine Run.fin rfl (EndOk.go ?_); exact .own rfl
  · rintro i x r B h1 hi hd ⟨hBl, hB0, hB⟩ ih
    have hBl' : B.length ≤ i := hBl
    have htk : ds.take i ++ [x] = ds.take (i + 1) := by rw [List.take_add_one, h1]; rfl
    have hx := hD.d x (List.mem_of_getElem? h1)
    cases b with
    | true =>
      have hB' : posF ds nm = B ++ posL t nm (ds.take i) (x :: r) := by simpa using hB
      refine fR rfl ?_
      refine lM rfl rfl rfl ?_
      refine fM rfl ?_
      refine Run.condT rfl rfl (by simp; omega) ?_
      refine fR rfl ?_
      refine Mid.elemMap rfl rfl rfl h1 rfl rfl ?_
      refine fM rfl ?_
      refine caG rfl rfl (fun hg => ⟨_, rfl, first_ok H ds hl i x h1, rfl⟩) rfl rfl ?_
      refine fM rfl ?_
      refine Run.cond rfl rfl (fun hc => ?_) (fun hc => ?_)
      · have hn : (x.kind == 1 && firstF (ds.take i) x.name && isP t nm x) = false := by
          have : (x.kind == 1 && firstF (ds.take i) x.name) = false := by rw [bne_b] at hc; revert hc; cases (x.kind == 1) <;> cases (firstF (ds.take i) x.name) <;> simp
          rw [this]; rfl
        refine fR rfl ?_
        refine aL rfl rfl rfl rfl rfl ?_
        refine fM rfl ?_
        exact rWeak 3 rfl (ih B ⟨by omega, by simp, by rw [hB']; simp only [posL, hn]; rw [htk]; rfl⟩) rfl rfl rfl
      · have hn : (x.kind == 1 && firstF (ds.take i) x.name) = true := by rw [bne_b] at hc; revert hc; cases (x.kind == 1) <;> cases (firstF (ds.take i) x.name) <;> simp
        refine fR rfl ?_
        refine caG rfl rfl (fun hg => ⟨_, rfl, rHas_ok H x.implements hx.il nm, rfl⟩) rfl rfl ?_
        refine fM rfl ?_
        refine caG rfl rfl (fun hg => ⟨_, rfl, member_ok H t hT.ml x.name, rfl⟩) rfl rfl ?_
        refine fM rfl ?_
        refine Run.cond rfl rfl (fun hp => ?_) (fun hp => ?_)
        · have hp' : isP t nm x = true := by simpa [isP] using hp
          refine fR rfl ?_
          refine apM sE B [x.name] rfl rfl rfl rfl rfl ?_
          refine fM rfl ?_
          refine aL rfl rfl rfl rfl rfl ?_
          refine fM rfl ?_
          exact rWeak 3 rfl (ih (B ++ [x.name]) ⟨by simp; omega, by simp, by rw [hB']; simp only [posL, hn, hp']; rw [htk]; simp⟩) rfl rfl rfl
        · have hp' : isP t nm x = false := by simpa [isP] using hp
          refine fR rfl ?_
          refine aL rfl rfl rfl rfl rfl ?_
          refine fM rfl ?_
          exact rWeak 3 rfl (ih B ⟨by omega, by simp, by rw [hB']; simp only [posL, hn, hp']; rw [htk]; simp⟩) rfl rfl rfl
    | false =>
      obtain rfl : B = [] := hB0 rfl
      have hB' : posF ds nm = [] := by simpa using hB
      refine fR rfl ?_
      refine lM rfl rfl rfl ?_
      refine fM rfl ?_
      refine Run.condF rfl rfl (by simp) ?_
      refine fR rfl ?_
      rw [hB']
      refine Run.fin rfl (EndOk.go ?_); exact .own rfl
end Go.GB.C11


/-
  D11C: contracts of chapter 11's functions: Possible of the program.
-/
namespace Go.GB.C11
open Go.GB
set_option linter.unusedSimpArgs false
set_option linter.unusedVariables false
set_option maxRecDepth 100000
set_option maxHeartbeats 2000000
variable {P : Program}

def bE (b : Bool) : T := .bool b
def hasK (M : List (Str × Bool)) (k : Str) : Bool := (kget k M).isSome
theorem hasK_kset (M : List (Str × Bool)) (x : Str) (k : Str) : hasK (kset x true M) k = (x == k || hasK M k) := by
  unfold hasK
  rw [kget_kset]
  by_cases h : k = x
  · subst h; simp
  · have h' : ¬ x = k := fun e => h e.symm
    simp [h, h']
/-- keys apart, all true -/
structure MOk (M : List (Str × Bool)) : Prop where
  nd : (M.map (·.1)).Nodup
  tr : ∀ e, e ∈ M → e.2 = true
theorem MOk.nil : MOk [] := ⟨by simp, by simp⟩
theorem kset_mem {M : List (Str × Bool)} {x : Str} {v : Bool} : ∀ {e : Str × Bool}, e ∈ kset x v M → e = (x, v) ∨ e ∈ M := by
  induction M with
  | nil => intro e h; simp [kset] at h; exact .inl h
  | cons a r ih =>
    intro e h
    simp only [kset] at h
    split at h
    · rcases List.mem_cons.1 h with h | h
      · exact .inl h
      · exact .inr (List.mem_cons_of_mem _ h)
    · rcases List.mem_cons.1 h with h | h
      · exact .inr (h ▸ List.mem_cons_self ..)
      · rcases ih h with h | h
        · exact .inl h
        · exact .inr (List.mem_cons_of_mem _ h)
theorem MOk.kset {M : List (Str × Bool)} (h : MOk M) (x : Str) : MOk (kset x true M) :=
  ⟨(kset_keys h.nd).1, fun e he => by rcases kset_mem he with rfl | he; rfl; exact h.tr e he⟩
theorem hasK_mem {M : List (Str × Bool)} {k : Str} (h : hasK M k = true) : ∃ e, e ∈ M ∧ e.1 = k := by
  unfold hasK at h
  induction M with
  | nil => simp [kget] at h
  | cons a r ih =>
    simp only [kget] at h
    split at h
    · rename_i e; exact ⟨a, List.mem_cons_self .., e.symm⟩
    · obtain ⟨e, h1, h2⟩ := ih h; exact ⟨e, List.mem_cons_of_mem _ h1, h2⟩
theorem MOk.get {M : List (Str × Bool)} (h : MOk M) (k : Str) : (kget k M).getD false = hasK M k := by
  have h2 := h.tr
  unfold hasK
  induction M with
  | nil => rfl
  | cons a r ih =>
    simp only [kget]
    split
    · simp [h2 a (List.mem_cons_self ..)]
    · exact ih ⟨(List.nodup_cons.1 (by simpa using h.nd)).2, fun e he => h2 e (List.mem_cons_of_mem _ he)⟩ fun e he => h2 e (List.mem_cons_of_mem _ he)

theorem kdrop_at {κ ν : Type} [DecidableEq κ] {e : κ × ν} : ∀ {l : List (κ × ν)} {i : Nat}, l[i]? = some e → (l.map (·.1)).Nodup → kdrop e.1 l = l.eraseIdx i
  | [], i, h, _ => by simp at h
  | w :: r, 0, h, hn => by simp at h; subst h; simp [kdrop]
  | w :: r, i + 1, h, hn => by
    simp only [List.map_cons, List.nodup_cons] at hn
    have h' : r[i]? = some e := by simpa using h
    have hne : ¬ e.1 = w.1 := fun heq => hn.1 (List.mem_map.2 ⟨e, List.mem_of_getElem? h', heq⟩)
    simp [kdrop, hne, kdrop_at h' hn.2]
theorem hasK_erase {M : List (Str × Bool)} (hM : MOk M) {e : Str × Bool} {i : Nat} (h : M[i]? = some e) (k : Str) : hasK (M.eraseIdx i) k = (hasK M k && !(k == e.1)) := by
  unfold hasK
  rw [← kdrop_at h hM.nd, kget_kdrop hM.nd]
  by_cases hk : k = e.1
  · simp [hk]
  · simp [hk]
theorem hasK_drop {M : List (Str × Bool)} (hM : MOk M) (x k : Str) : hasK (kdrop x M) k = (hasK M k && !(k == x)) := by
  unfold hasK
  rw [kget_kdrop hM.nd]
  by_cases hk : k = x
  · simp [hk]
  · simp [hk]
theorem kdrop_sub {M : List (Str × Bool)} (x : Str) : (kdrop x M).Sublist M := by
  induction M with
  | nil => exact List.Sublist.refl _
  | cons a r ih =>
    simp only [kdrop]
    split
    · exact List.sublist_cons_self ..
    · exact ih.cons_cons _
theorem MOk.sub {M M' : List (Str × Bool)} (h : MOk M) (hs : M'.Sublist M) : MOk M' :=
  ⟨h.nd.sublist (hs.map _), fun e he => h.tr e (hs.subset he)⟩
theorem nodup_at : ∀ {bs : List Nat} {i j s : Nat}, bs.Nodup → bs[i]? = some s → bs[j]? = some s → i = j
  | [], i, j, s, _, h, _ => by simp at h
  | b :: r, 0, 0, s, _, _, _ => rfl
  | b :: r, 0, j + 1, s, hn, h1, h2 => by
    simp at h1; subst h1
    exact absurd (List.mem_of_getElem? (by simpa using h2)) (List.nodup_cons.1 hn).1
  | b :: r, i + 1, 0, s, hn, h1, h2 => by
    simp at h2; subst h2
    exact absurd (List.mem_of_getElem? (by simpa using h1)) (List.nodup_cons.1 hn).1
  | b :: r, i + 1, j + 1, s, hn, h1, h2 => by
    exact congrArg (· + 1) (nodup_at (List.nodup_cons.1 hn).2 (by simpa using h1) (by simpa using h2))
/-- stamps that are still to come -/
def cntU (bs seen : List Nat) : Nat := bs.countP fun s => !decide (s ∈ seen)
theorem cntU_le (bs seen : List Nat) (s : Nat) : cntU bs (seen ++ [s]) ≤ cntU bs seen := by
  unfold cntU
  refine List.countP_mono_left fun x _ h => ?_
  simp at h ⊢; exact h.1
theorem cntU_lt {s : Nat} {seen : List Nat} (hs : s ∉ seen) : ∀ {bs : List Nat}, s ∈ bs → cntU bs (seen ++ [s]) < cntU bs seen
  | [], h => by cases h
  | b :: r, h => by
    have hle := cntU_le r seen s
    unfold cntU at hle ⊢
    simp only [List.countP_cons]
    rcases List.mem_cons.1 h with rfl | h
    · simp [hs]; simp at hle; omega
    · have ih := cntU_lt hs h
      unfold cntU at ih
      have : (if (!decide (b ∈ seen ++ [s])) = true then 1 else 0) ≤ (if (!decide (b ∈ seen)) = true then 1 else 0) := by
        by_cases hb : b ∈ seen
        · simp [hb]
        · by_cases hbs : b = s <;> simp [hb, hbs]
      omega
theorem cntU_erase (bs seen : List Nat) (i : Nat) : cntU (bs.eraseIdx i) seen ≤ cntU bs seen := (List.eraseIdx_sublist ..).countP_le
theorem zip_erase {α β : Type} : ∀ (l : List α) (r : List β) (i : Nat), (l.eraseIdx i).zip (r.eraseIdx i) = (l.zip r).eraseIdx i
  | [], r, i => by simp
  | a :: l, [], i => by cases i <;> simp
  | a :: l, b :: r, 0 => by simp
  | a :: l, b :: r, i + 1 => by simp [zip_erase l r i]

/-- what the loop along the map keeps -/
structure Lp (M : List (Str × Bool)) (bad : Str → Bool) (b : List (Str × Bool) × List Nat × List Nat) : Prop where
  ok : MOk b.1
  len : b.2.1.length = b.1.length
  nd : b.2.1.Nodup
  i1 : ∀ k, hasK b.1 k = true → hasK M k = true
  i2 : ∀ k, hasK M k = true → bad k = false → hasK b.1 k = true
  i3 : ∀ p, p ∈ b.1.zip b.2.1 → p.2 ∈ b.2.2 → bad p.1.1 = false
theorem Lp.keep {M : List (Str × Bool)} {bad : Str → Bool} {L : List (Str × Bool)} {bs seen : List Nat} (h : Lp M bad (L, bs, seen)) {i s : Nat} {e : Str × Bool} (he : L[i]? = some e) (hs : bs[i]? = some s) (hb : bad e.1 = false) : Lp M bad (L, bs, seen ++ [s]) := by
  refine ⟨h.ok, h.len, h.nd, h.i1, h.i2, fun p hp hps => ?_⟩
  rcases List.mem_append.1 hps with hps | hps
  · exact h.i3 p hp hps
  · simp at hps
    obtain ⟨j, hj⟩ := List.mem_iff_getElem?.1 hp
    obtain ⟨h1, h2⟩ := List.getElem?_zip_eq_some.1 hj
    rw [hps] at h2
    have := nodup_at h.nd hs h2
    subst this
    simp only at h1
    rw [he] at h1; simp at h1; rw [← h1]; exact hb
theorem Lp.drop {M : List (Str × Bool)} {bad : Str → Bool} {L : List (Str × Bool)} {bs seen : List Nat} (h : Lp M bad (L, bs, seen)) {i s : Nat} {e : Str × Bool} (he : L[i]? = some e) (hs : bs[i]? = some s) (hb : bad e.1 = true) : Lp M bad (L.eraseIdx i, bs.eraseIdx i, seen ++ [s]) := by
  have hlen : bs.length = L.length := h.len
  have hok : MOk L := h.ok
  refine ⟨hok.sub (List.eraseIdx_sublist ..), by show (bs.eraseIdx i).length = (L.eraseIdx i).length; rw [List.length_eraseIdx, List.length_eraseIdx, hlen], List.Nodup.sublist (List.eraseIdx_sublist ..) h.nd, fun k hk => ?_, fun k hk hkb => ?_, fun p hp hps => ?_⟩
  · have hk' : hasK (L.eraseIdx i) k = true := hk
    rw [hasK_erase hok he] at hk'
    simp at hk'
    exact h.i1 k hk'.1
  · show hasK (L.eraseIdx i) k = true
    rw [hasK_erase hok he]
    have h1 := h.i2 k hk hkb
    have hne : ¬ k = e.1 := by rintro rfl; rw [hb] at hkb; cases hkb
    simp [hne]; exact h1
  · have hp' : p ∈ (L.zip bs).eraseIdx i := by rw [← zip_erase]; exact hp
    have hpm : p ∈ L.zip bs := (List.eraseIdx_sublist ..).subset hp'
    rcases List.mem_append.1 hps with hps | hps
    · exact h.i3 p hpm hps
    · exfalso
      simp at hps
      have hz : (bs.eraseIdx i) = ((L.zip bs).eraseIdx i).map (·.2) := by
        rw [← zip_erase]
        rw [List.map_snd_zip (by rw [List.length_eraseIdx, List.length_eraseIdx, hlen]; exact Nat.le_refl _)]
      have hmem : s ∈ bs.eraseIdx i := by rw [hz, ← hps]; exact List.mem_map.2 ⟨p, hp', rfl⟩
      obtain ⟨j, hj⟩ := List.mem_iff_getElem?.1 hmem
      rw [List.getElem?_eraseIdx] at hj
      split at hj
      · have := nodup_at h.nd hs hj; omega
      · have := nodup_at h.nd hs hj; omega
theorem Lp.last {M : List (Str × Bool)} {bad : Str → Bool} {L : List (Str × Bool)} {bs seen : List Nat} (h : Lp M bad (L, bs, seen)) (hall : ∀ s, s ∈ bs → s ∈ seen) (k : Str) : hasK L k = (hasK M k && !(bad k)) := by
  have hlen : bs.length = L.length := h.len
  by_cases hk : hasK L k = true
  · obtain ⟨e, he, rfl⟩ := hasK_mem hk
    obtain ⟨i, hi⟩ := List.mem_iff_getElem?.1 he
    have hil : i < bs.length := by rw [hlen]; exact (List.getElem?_eq_some_iff.1 hi).1
    have hz : (L.zip bs)[i]? = some (e, bs[i]) := List.getElem?_zip_eq_some.2 ⟨hi, by simp [hil]⟩
    have := h.i3 (e, bs[i]) (List.mem_of_getElem? hz) (hall _ (by simp))
    have h1 := h.i1 e.1 hk
    simp only at this
    rw [hk, h1, this]; rfl
  · have hk' : hasK L k = false := by simpa using hk
    rw [hk']
    by_cases h1 : hasK M k = true
    · by_cases h2 : bad k = false
      · exact absurd (h.i2 k h1 h2) hk
      · have : bad k = true := by simpa using h2
        simp [this]
    · have : hasK M k = false := by simpa using h1
      simp [this]
end Go.GB.C11


/-
  D11D: contracts of chapter 11's functions: Possible of the program.
-/
namespace Go.GB.C11
open Go.GB
set_option linter.unusedSimpArgs false
set_option linter.unusedVariables false
set_option maxRecDepth 100000
set_option maxHeartbeats 2000000
variable {P : Program}

theorem str_comm (a b : Str) : (a == b) = (b == a) := by
  rw [Bool.eq_iff_iff]; simp only [beq_iff_eq]; exact eq_comm
/-- the names that Possible looks at -/
def initB (t : Def) (nm : Str) (ds : List Def) (k : Str) : Bool :=
  (t.kind == 1 && nm == k) || (t.kind == 2 && ds.any (fun x => decide (nm ∈ x.implements) && x.name == k)) || (t.kind == 3 && memF t.members k)
/-- the names that it leaves out -/
def badB (t : Def) (nm : Str) (ds : List Def) (k : Str) : Bool :=
  !(findDef k ds).isSome || ((findDef k ds).getD Def.zero).kind != 1 || (t.kind == 2 && !(decide (nm ∈ ((findDef k ds).getD Def.zero).implements)))
theorem find_first : ∀ {ds : List Def} {i : Nat} {x : Def}, ds[i]? = some x → firstF (ds.take i) x.name = true → findDef x.name ds = some x
  | [], i, x, h, _ => by simp at h
  | y :: r, 0, x, h, _ => by simp at h; subst h; simp [findDef]
  | y :: r, i + 1, x, h, hf => by
    have hne : ¬ (y.name == x.name) = true := by
      intro e; simp [firstF, e] at hf
    simp only [findDef]; rw [if_neg hne]
    refine find_first (i := i) (by simpa using h) ?_
    simp only [firstF, List.take_succ_cons, List.any_cons] at hf ⊢
    have : (y.name == x.name) = false := by simpa using hne
    rw [this, Bool.false_or] at hf; exact hf
theorem good_eq {ds : List Def} {t : Def} {nm : Str} {i : Nat} {x : Def} (h : ds[i]? = some x) (hf : firstF (ds.take i) x.name = true) : (initB t nm ds x.name && !(badB t nm ds x.name)) = (x.kind == 1 && isP t nm x) := by
  have e := find_first h hf
  have hm : x ∈ ds := List.mem_of_getElem? h
  unfold badB initB isP
  rw [e]
  simp only [Option.isSome_some, Option.getD_some, Bool.not_true, Bool.false_or, bne_b]
  by_cases h2 : t.kind = 2
  · have h1 : ¬ t.kind = 1 := by omega
    have h3 : ¬ t.kind = 3 := by omega
    by_cases hx : nm ∈ x.implements
    · have : (ds.any fun y => decide (nm ∈ y.implements) && y.name == x.name) = true := List.any_eq_true.2 ⟨x, hm, by simp [hx]⟩
      simp [h2, hx, this]
    · simp [h2, hx]
  · have e1 : (nm == x.name) = (x.name == nm) := str_comm _ _
    have h2' : (t.kind == 2) = false := by simpa using h2
    simp only [h2', e1, Bool.false_and, Bool.or_false, Bool.and_comm]
    cases (t.kind == 1 && x.name == nm) <;> cases (t.kind == 3 && memF t.members x.name) <;> cases (x.kind == 1) <;> rfl
theorem posL_zero (nm : Str) : ∀ (r pre : List Def), posL Def.zero nm pre r = []
  | [], pre => rfl
  | o :: r, pre => by
    have : isP Def.zero nm o = false := rfl
    simp only [posL, this, Bool.and_false, Bool.false_eq_true, if_false]
    exact posL_zero nm r _
theorem posF_eq (ds : List Def) (nm : Str) : posF ds nm = posL ((findDef nm ds).getD Def.zero) nm [] ds := by
  unfold posF
  cases findDef nm ds with
  | none => simp [posL_zero]
  | some t => rfl
theorem firstF_snoc (l : List Def) (x : Def) (k : Str) : firstF (l ++ [x]) k = (firstF l k && !(x.name == k)) := by
  simp [firstF, List.any_append, Bool.not_or]

theorem possible_ok (H : Pr P) (ds : List Def) (hD : DocOk ds) (nm : Str) : FnOk P 34 [docV ds, .t (.str nm)] ⟨[], 0⟩ { v := .t (.lst ((posF ds nm).map sE)) } := by
  have hl := hD.l
  have hlb := hD.lb
  have hT := docFind hD nm
  have hpos := posF_eq ds nm
  refine FnOk.run H.i34 H.mixed rfl rfl ?_
  refine fR rfl ?_
  refine Mid.call (find_ok H ds hl nm) rfl rfl rfl rfl ?_
  refine fM rfl ?_
  generalize (findDef nm ds).getD Def.zero = t at hT hpos
  have tail : ∀ M : List (Str × Bool), MOk M → (∀ k, hasK M k = initB t nm ds k) → Run P n34 (⟨[], 0⟩ : S).nxt (EndOk ⟨[], 0⟩ { v := .t (.lst ((posF ds nm).map sE)) } r34 AExit.ret)
      [It.c (.region false [⟨some 60, none, .mv (.s 7)⟩, ⟨some 61, none, .mrange (.s 60)⟩] [] [1, 2, 5, 7, 61]), It.c c34_23, It.c c34_13]
      { env := [(1, .t (.str nm)), (2, .ptr 0 0), (5, .ptr 1 0), (7, .mp 2)], s := ⟨[(0, .cells [.t (.lst (ds.map Def.enc))]), (1, .cells [.t (.int .i64 t.kind), .t (.str t.name), .t (.lst (t.implements.map sE)), .t (.lst (t.dirs.map Dir.enc)), .t (.lst (t.fields.map Field.enc)), .t (.lst (t.members.map Member.enc)), .t (.lst (t.inputs.map Input.enc))]), (2, .map false (mE sE bE M) none)], 3⟩ } := by
    intro M hM hMk
    refine Run.learn (q := 2) rfl rfl (fun cl bs hbl hbn hblt => ?_)
    refine fR rfl ?_
    refine Mid.mrangeT rfl rfl rfl ?_
    refine Mid.done0 rfl ?_
    refine rLoopM (β := List (Str × Bool) × List Nat × List Nat) (fun b => { env := [(1, .t (.str nm)), (2, .ptr 0 0), (5, .ptr 1 0), (7, .mp 2), (61, .ptr 3 0)], s := ⟨[(0, .cells [.t (.lst (ds.map Def.enc))]), (1, .cells [.t (.int .i64 t.kind), .t (.str t.name), .t (.lst (t.implements.map sE)), .t (.lst (t.dirs.map Dir.enc)), .t (.lst (t.fields.map Field.enc)), .t (.lst (t.members.map Member.enc)), .t (.lst (t.inputs.map Input.enc))]), (2, .map false (mE sE bE b.1) (some (cl, b.2.1))), (3, .iter 2 cl b.2.2 cl)], 4⟩ })
      (Lp M (badB t nm ds)) (fun b => cntU b.2.1 b.2.2) 4 (M, bs, []) rfl ⟨hM, by simpa [mE] using hbl, hbn, fun _ h => h, fun _ h _ => h, fun p hp h => by cases h⟩ rfl rfl rfl ?_
    rintro ⟨L, bs', seen⟩ hinv ih
    refine Run.nxt rfl rfl rfl rfl rfl (fun hall => ?_) (fun i e s he hs hns => ?_)
    · have hG := hinv.last hall
      have hLok : MOk L := hinv.ok
      refine fM rfl ?_
      refine Run.condF rfl rfl rfl ?_
      refine fR rfl ?_
      refine lM rfl rfl rfl ?_
      refine fM rfl ?_
      refine rList ds (fun i (B : List Str × List (Str × Bool)) => { env := [(7, .mp 2), (15, .own 4 1 (B.1.map sE)), (93, .t (.lst (ds.map Def.enc))), (94, .t (.int .i64 ds.length)), (95, .t (.int .i64 i))], s := ⟨[(2, .map false (mE sE bE B.2) none), (4, .arr B.1.length)], 5⟩ }) (fun r i B => B.1.length ≤ i ∧ MOk B.2 ∧ (∀ k, hasK B.2 k = (hasK L k && firstF (ds.take i) k)) ∧ posF ds nm = B.1 ++ posL t nm (ds.take i) r) 4 ([], L) rfl ⟨by simp, hLok, by intro k; simp [firstF], by rw [hpos]; simp⟩ rfl rfl rfl ?_ ?_
      · rintro ⟨B, N⟩ ⟨_, _, _, hB⟩
        obtain rfl : B = posF ds nm := by rw [hB]; simp [posL]
        refine fR rfl ?_
        refine Run.condF rfl rfl (by simp) ?_
        refine fR rfl ?_
        refine Run.fin rfl (EndOk.go ?_); exact .own rfl
      · rintro i x r ⟨B, N⟩ h1 hi hd ⟨hBl, hN, hNk, hB⟩ ih2
        have hBl' : B.length ≤ i := hBl
        have hNok : MOk N := hN
        have htk : ds.take i ++ [x] = ds.take (i + 1) := by rw [List.take_add_one, h1]; rfl
        have hx := hNk x.name
        refine fR rfl ?_
        refine Run.condT rfl rfl (by simp; omega) ?_
        refine fR rfl ?_
        refine Mid.elemMap rfl rfl rfl h1 rfl rfl ?_
        refine fM rfl ?_
        refine Mid.lookT (x.name) rfl rfl rfl rfl rfl (sE_ok) rfl ?_
        refine fM rfl ?_
        rw [hNok.get]
        refine Run.cond rfl rfl (fun hc => ?_) (fun hc => ?_)
        · have hc2 : hasK L x.name = true ∧ firstF (ds.take i) x.name = true := by
            have : hasK N x.name = true := hc
            rw [this] at hx; simpa using hx.symm
          have hg : (x.kind == 1 && isP t nm x) = true := by rw [← good_eq h1 hc2.2, ← hMk, ← hG]; exact hc2.1
          have hsel : (x.kind == 1 && firstF (ds.take i) x.name && isP t nm x) = true := by
            rw [hc2.2, Bool.and_true]; exact hg
          refine fR rfl ?_
          refine apM sE B [x.name] rfl rfl rfl rfl rfl ?_
          refine fM rfl ?_
          refine Mid.delT x.name rfl rfl rfl sE_ok rfl ?_
          refine fM rfl ?_
          refine aL rfl rfl rfl rfl rfl ?_
          refine fM rfl ?_
          exact rWeak 5 rfl (ih2 (B ++ [x.name], kdrop x.name N) ⟨by simp; omega, hNok.sub (kdrop_sub _), by
            intro k
            show hasK (kdrop x.name N) k = _
            rw [hasK_drop hNok, show hasK N k = _ from hNk k, ← htk, firstF_snoc]
            rw [str_comm k x.name, Bool.and_assoc], by rw [hB]; simp only [posL]; rw [if_pos hsel, htk]; simp⟩) rfl rfl rfl
        · have hcN : hasK N x.name = false := hc
          have hsel : ¬ (x.kind == 1 && firstF (ds.take i) x.name && isP t nm x) = true := by
            intro hs
            simp only [Bool.and_eq_true] at hs
            have hg : (x.kind == 1 && isP t nm x) = true := by rw [hs.1.1, hs.2]; rfl
            rw [← good_eq h1 hs.1.2, ← hMk, ← hG] at hg
            rw [hcN, hg, hs.1.2] at hx
            cases hx
          refine fR rfl ?_
          refine aL rfl rfl rfl rfl rfl ?_
          refine fM rfl ?_
          exact rWeak 5 rfl (ih2 (B, N) ⟨by omega, hNok, by
            intro k
            show hasK N k = _
            rw [show hasK N k = _ from hNk k, ← htk, firstF_snoc]
            by_cases e : x.name = k
            · subst e
              rw [show hasK N x.name = _ from hNk x.name] at hcN
              rw [hcN]; simp
            · have e' : (x.name == k) = false := by simpa using e
              rw [e']; simp, by rw [hB]; simp only [posL]; rw [if_neg hsel, htk]⟩) rfl rfl rfl
    · have hbn' : bs'.Nodup := hinv.nd
      have hLok : MOk L := hinv.ok
      have hsm : s ∈ bs' := List.mem_of_getElem? hs
      have hO := docFind hD e.1
      have hil := hO.il
      have hlt : cntU bs' (seen ++ [s]) < cntU bs' seen := cntU_lt hns hsm
      refine fM rfl ?_
      refine Run.condT rfl rfl rfl ?_
      refine fR rfl ?_
      refine Mid.ientT (i := i) (z := s) rfl rfl rfl (by simp) he hs hbn' rfl ?_
      refine fM rfl ?_
      refine Mid.call (find_ok H ds hl e.1) rfl rfl rfl rfl ?_
      refine fM rfl ?_
      refine caG rfl rfl (fun hg => ⟨_, rfl, implements_ok H ((findDef e.1 ds).getD Def.zero) hO nm, rfl⟩) rfl rfl ?_
      refine fM rfl ?_
      refine Run.cond rfl rfl (fun hb => ?_) (fun hb => ?_)
      · have hb' : badB t nm ds e.1 = true := by simpa [badB, bne_b] using hb
        refine fR rfl ?_
        refine Mid.delI (i := i) rfl rfl he hLok.nd rfl sE_ok rfl ?_
        refine fM rfl ?_
        exact rWeak 4 rfl (ih (L.eraseIdx i, bs'.eraseIdx i, seen ++ [s]) (by have := cntU_erase bs' (seen ++ [s]) i; show cntU (bs'.eraseIdx i) (seen ++ [s]) < cntU bs' seen; omega) (hinv.drop he hs hb')) rfl rfl rfl
      · have hb' : badB t nm ds e.1 = false := by simpa [badB, bne_b] using hb
        skip
        exact rWeak 4 rfl (ih (L, bs', seen ++ [s]) hlt (hinv.keep he hs hb')) rfl rfl rfl
  refine Mid.mkmapT sE bE rfl ?_
  refine fM rfl ?_
  refine Run.cond rfl rfl (fun h1 => ?_) (fun h1 => ?_)
  · have h1' : t.kind = 1 := by simpa using h1
    refine fR rfl ?_
    refine Mid.mapT nm rfl rfl rfl rfl sE_ok rfl ?_
    refine Mid.done0 rfl ?_
    exact rWeakC 3 rfl (tail (kset nm true []) (MOk.nil.kset nm) (by intro k; rw [hasK_kset]; simp [initB, h1', hasK, kget])) rfl rfl rfl
  · have h1' : ¬ t.kind = 1 := by simpa using h1
    refine fR rfl ?_
    refine Run.cond rfl rfl (fun h2 => ?_) (fun h2 => ?_)
    · have h2' : t.kind = 2 := by simpa using h2
      refine fR rfl ?_
      refine lM rfl rfl rfl ?_
      refine fM rfl ?_
      refine rList ds (fun i (M : List (Str × Bool)) => { env := [(1, .t (.str nm)), (2, .ptr 0 0), (5, .ptr 1 0), (7, .mp 2), (34, .t (.lst (ds.map Def.enc))), (35, .t (.int .i64 ds.length)), (36, .t (.int .i64 i))], s := ⟨[(0, .cells [.t (.lst (ds.map Def.enc))]), (1, .cells [.t (.int .i64 t.kind), .t (.str t.name), .t (.lst (t.implements.map sE)), .t (.lst (t.dirs.map Dir.enc)), .t (.lst (t.fields.map Field.enc)), .t (.lst (t.members.map Member.enc)), .t (.lst (t.inputs.map Input.enc))]), (2, .map false (mE sE bE M) none)], 3⟩ }) (fun r i M => MOk M ∧ ∀ k, (hasK M k || r.any (fun x => decide (nm ∈ x.implements) && x.name == k)) = ds.any (fun x => decide (nm ∈ x.implements) && x.name == k)) 3 [] rfl ⟨MOk.nil, fun k => by simp [hasK, kget]⟩ rfl rfl rfl ?_ ?_
      · rintro M ⟨hM, hMk⟩
        refine fR rfl ?_
        refine Run.condF rfl rfl (by simp) ?_
        exact rWeakC 3 rfl (tail M hM (by intro k; have := hMk k; simp only [List.any_nil, Bool.or_false] at this; rw [this]; simp [initB, h2'])) rfl rfl rfl
      · rintro i x r M hx1 hi hd ⟨hM, hMk⟩ ih
        have hxo := hD.d x (List.mem_of_getElem? hx1)
        refine fR rfl ?_
        refine Run.condT rfl rfl (by simp; omega) ?_
        refine fR rfl ?_
        refine Mid.elemMap rfl rfl rfl hx1 rfl rfl ?_
        refine fM rfl ?_
        refine Mid.call (implements_ok H x hxo nm) rfl rfl rfl rfl ?_
        refine fM rfl ?_
        refine Run.cond rfl rfl (fun hc => ?_) (fun hc => ?_)
        · refine fR rfl ?_
          refine Mid.mapT (x.name) rfl rfl rfl rfl (sE_ok) rfl ?_
          refine fM rfl ?_
          refine aL rfl rfl rfl rfl rfl ?_
          refine fM rfl ?_
          exact rWeak 3 rfl (ih (kset x.name true M) ⟨hM.kset _, fun k => by
            rw [← hMk k, hasK_kset]
            have : decide (nm ∈ x.implements) = true := hc
            simp only [List.any_cons, this, Bool.true_and]
            cases (x.name == k) <;> cases (hasK M k) <;> simp⟩) rfl rfl rfl
        · refine fR rfl ?_
          refine aL rfl rfl rfl rfl rfl ?_
          refine fM rfl ?_
          exact rWeak 3 rfl (ih M ⟨hM, fun k => by
            rw [← hMk k]
            have : decide (nm ∈ x.implements) = false := hc
            simp only [List.any_cons, this, Bool.false_and, Bool.false_or]⟩) rfl rfl rfl
    · have h2' : ¬ t.kind = 2 := by simpa using h2
      refine fR rfl ?_
      refine Run.cond rfl rfl (fun h3 => ?_) (fun h3 => ?_)
      · have h3' : t.kind = 3 := by simpa using h3
        have hml := hT.ml
        refine fR rfl ?_
        refine lM rfl rfl rfl ?_
        refine fM rfl ?_
        refine rList t.members (fun i (M : List (Str × Bool)) => { env := [(1, .t (.str nm)), (2, .ptr 0 0), (5, .ptr 1 0), (7, .mp 2), (50, .t (.lst (t.members.map Member.enc))), (51, .t (.int .i64 t.members.length)), (52, .t (.int .i64 i))], s := ⟨[(0, .cells [.t (.lst (ds.map Def.enc))]), (1, .cells [.t (.int .i64 t.kind), .t (.str t.name), .t (.lst (t.implements.map sE)), .t (.lst (t.dirs.map Dir.enc)), .t (.lst (t.fields.map Field.enc)), .t (.lst (t.members.map Member.enc)), .t (.lst (t.inputs.map Input.enc))]), (2, .map false (mE sE bE M) none)], 3⟩ }) (fun r i M => MOk M ∧ ∀ k, (hasK M k || memF r k) = memF t.members k) 3 [] rfl ⟨MOk.nil, fun k => by simp [hasK, kget]⟩ rfl rfl rfl ?_ ?_
        · rintro M ⟨hM, hMk⟩
          refine fR rfl ?_
          refine Run.condF rfl rfl (by simp) ?_
          exact rWeakC 3 rfl (tail M hM (by intro k; have := hMk k; simp only [memF, List.any_nil, Bool.or_false] at this; rw [this]; simp [initB, h3', memF])) rfl rfl rfl
        · rintro i x r M hx1 hi hd ⟨hM, hMk⟩ ih
          refine fR rfl ?_
          refine Run.condT rfl rfl (by simp; omega) ?_
          refine fR rfl ?_
          refine Mid.elemMap rfl rfl rfl hx1 rfl rfl ?_
          refine fM rfl ?_
          refine Mid.mapT (x.name) rfl rfl rfl rfl (sE_ok) rfl ?_
          refine fM rfl ?_
          refine aL rfl rfl rfl rfl rfl ?_
          refine fM rfl ?_
          exact rWeak 3 rfl (ih (kset x.name true M) ⟨hM.kset _, fun k => by
            rw [← hMk k, hasK_kset]
            simp only [memF, List.any_cons]
            cases (x.name == k) <;> cases (hasK M k) <;> simp⟩) rfl rfl rfl
      · have h3' : ¬ t.kind = 3 := by simpa using h3
        exact rWeakC 3 rfl (tail [] MOk.nil (by intro k; simp [initB, hasK, kget, h1', h2', h3'])) rfl rfl rfl
end Go.GB.C11


/-
  D11E: contracts of chapter 11's functions: types of fields (typeref), Is, Sub.
-/
namespace Go.GB.C11
open Go.GB
set_option linter.unusedSimpArgs false
set_option linter.unusedVariables false
set_option maxRecDepth 100000
set_option maxHeartbeats 2000000
variable {P : Program}

/- wrappers -/
end Go.GB.C11


/-
  D11F: contracts of chapter 11's functions: lists among types, Is, Sub.
-/
namespace Go.GB.C11
open Go.GB
set_option linter.unusedSimpArgs false
set_option linter.unusedVariables false
set_option maxRecDepth 100000
set_option maxHeartbeats 2000000
variable {P : Program}

/-- is it a possible type? -/
def isF (ds : List Def) (o n : Str) : Bool := decide (o ∈ posF ds n)
theorem posL_len (t : Def) (nm : Str) : ∀ (r pre : List Def), (posL t nm pre r).length ≤ r.length
  | [], pre => by simp [posL]
  | o :: r, pre => by
    have := posL_len t nm r (pre ++ [o])
    simp only [posL]
    split <;> simp <;> omega
theorem posF_len (ds : List Def) (nm : Str) : (posF ds nm).length ≤ ds.length := by
  rw [posF_eq]; exact posL_len _ nm ds []
theorem is_ok (H : Pr P) (ds : List Def) (hD : DocOk ds) (o n : Str) : FnOk P 23 [docV ds, .t (.str o), .t (.str n)] ⟨[], 0⟩ { v := .t (.bool (isF ds o n)) } := by
  have hl := posF_len ds n
  have := hD.l
  refine FnOk.run H.i23 H.mixed rfl rfl ?_
  refine fR rfl ?_
  refine Mid.call (possible_ok H ds hD n) rfl rfl rfl rfl ?_
  refine fM rfl ?_
  refine Mid.call (contains_ok H (posF ds n) (by omega) o) rfl rfl rfl rfl ?_
  refine fM rfl ?_
  refine Run.fin rfl (EndOk.go ?_); exact .t rfl
theorem rIs_ok (H : Pr P) (ds : List Def) (hD : DocOk ds) (o n : Str) : FnOk P 45 [docV ds, .t (.str o), .t (.str n)] ⟨[], 0⟩ { v := .t (.bool (isF ds o n)) } := by
  have hl := posF_len ds n
  have := hD.l
  refine FnOk.run H.i45 H.mixed rfl rfl ?_
  refine fR rfl ?_
  refine Mid.call (rPossible_ok H ds hD n) rfl rfl rfl rfl ?_
  refine fM rfl ?_
  refine Mid.call (rHas_ok H (posF ds n) (by omega) o) rfl rfl rfl rfl ?_
  refine fM rfl ?_
  refine Run.fin rfl (EndOk.go ?_); exact .t rfl

end Go.GB.C11


/-
  D11G: contracts of chapter 11's functions: Sub of the reference, Overlap, Strings.
-/
namespace Go.GB.C11
open Go.GB
set_option linter.unusedSimpArgs false
set_option linter.unusedVariables false
set_option maxRecDepth 100000
set_option maxHeartbeats 2000000
variable {P : Program}

end Go.GB.C11


/-
  D11H: contracts of chapter 11's functions: Overlap, lists that are compared, names.
-/
namespace Go.GB.C11
open Go.GB
set_option linter.unusedSimpArgs false
set_option linter.unusedVariables false
set_option maxRecDepth 100000
set_option maxHeartbeats 2000000
variable {P : Program}

/- lists that are compared -/
theorem drop_at {α : Type} {l : List α} {i : Nat} {y : α} (h : l[i]? = some y) : l.drop i = y :: l.drop (i + 1) := by
  obtain ⟨hi, hy⟩ := List.getElem?_eq_some_iff.1 h
  rw [List.drop_eq_getElem_cons hi, hy]
structure Fault where
  err : Int
  at_ : Str
instance : DecidableEq Fault := fun a b => decidable_of_iff (a.err = b.err ∧ a.at_ = b.at_) (by cases a; cases b; simp)
def Fault.enc (f : Fault) : List T := [.int .i64 f.err, .str f.at_]
end Go.GB.C11


/-
  D11I: contracts of chapter 11's functions: Large, right types, Fits.
-/
namespace Go.GB.C11
open Go.GB
set_option linter.unusedSimpArgs false
set_option linter.unusedVariables false
set_option maxRecDepth 100000
set_option maxHeartbeats 2000000
variable {P : Program}

def lgFld (n : Int) (f : Field) : Int := IntKind.i64.wrap (n + IntKind.i64.wrap ((f.args.length : Nat) + (f.dirs.length : Nat)))
def lgDef (n : Int) (d : Def) : Int := d.fields.foldl lgFld (IntKind.i64.wrap (n + IntKind.i64.wrap (IntKind.i64.wrap (IntKind.i64.wrap (IntKind.i64.wrap (IntKind.i64.wrap (1 + (d.fields.length : Nat)) + (d.members.length : Nat)) + (d.inputs.length : Nat)) + (d.dirs.length : Nat)) + (d.implements.length : Nat))))
def largeF (ds : List Def) : Bool := decide ((ds.length : Int) > 70) || decide (ds.foldl lgDef 0 > 1000)
theorem large_ok (H : Pr P) (ds : List Def) (hD : DocOk ds) : FnOk P 21 [docV ds] ⟨[], 0⟩ { v := .t (.bool (largeF ds)) } := by
  have hl := hD.l
  refine FnOk.run H.i21 H.mixed rfl rfl ?_
  refine fR rfl ?_
  refine lM rfl rfl rfl ?_
  refine fM rfl ?_
  refine Run.cond rfl rfl (fun h => ?_) (fun h => ?_)
  · refine fR rfl ?_
    refine Run.fin rfl (EndOk.go ?_); exact .t (by unfold largeF; rw [show decide ((ds.length : Int) > 70) = true from h]; rfl)
  · have h' : decide ((ds.length : Int) > 70) = false := h
    refine fR rfl ?_
    refine rList ds (fun i (n : Int) => { env := [(1, .ptr 0 0), (3, .t (.int .i64 n)), (4, .t (.int .i64 i))], s := ⟨[(0, .cells [.t (.lst (ds.map Def.enc))])], 1⟩ }) (fun r i n => ds.foldl lgDef 0 = r.foldl lgDef n) 1 0 rfl rfl rfl rfl rfl ?_ ?_
    · rintro n hinv
      refine fR rfl ?_
      refine lM rfl rfl rfl ?_
      refine fM rfl ?_
      refine Run.condF rfl rfl (by simp) ?_
      refine fR rfl ?_
      refine Run.fin rfl (EndOk.go ?_); exact .t (by unfold largeF; rw [h', hinv]; rfl)
    · rintro i x r n h1 hi hd hinv ih
      have hinv' : ds.foldl lgDef 0 = r.foldl lgDef (lgDef n x) := hinv
      refine fR rfl ?_
      refine lM rfl rfl rfl ?_
      refine fM rfl ?_
      refine Run.condT rfl rfl (by simp; omega) ?_
      refine fR rfl ?_
      refine Mid.elemMap rfl rfl rfl h1 rfl rfl ?_
      refine fM rfl ?_
      refine lM rfl rfl rfl ?_
      refine p0 rfl ?_
      refine fM rfl ?_
      refine lM rfl rfl rfl ?_
      refine p0 rfl ?_
      refine fM rfl ?_
      refine lM rfl rfl rfl ?_
      refine p0 rfl ?_
      refine fM rfl ?_
      refine lM rfl rfl rfl ?_
      refine p0 rfl ?_
      refine fM rfl ?_
      refine lM rfl rfl rfl ?_
      refine p0 rfl ?_
      refine p0 rfl ?_
      refine fM rfl ?_
      have hfl := (hD.d x (List.mem_of_getElem? h1)).fl
      generalize hn1 : IntKind.i64.wrap (n + IntKind.i64.wrap (IntKind.i64.wrap (IntKind.i64.wrap (IntKind.i64.wrap (IntKind.i64.wrap (1 + (x.fields.length : Nat)) + (x.members.length : Nat)) + (x.inputs.length : Nat)) + (x.dirs.length : Nat)) + (x.implements.length : Nat))) = n1
      have en : lgDef n x = x.fields.foldl lgFld n1 := by rw [← hn1]; rfl
      rw [en] at hinv'
      refine rList x.fields (fun j (n : Int) => { env := [(1, .ptr 0 0), (3, .t (.int .i64 n)), (4, .t (.int .i64 i)), (5, .ptr 1 0), (6, .t (.int .i64 j))], s := ⟨[(0, .cells [.t (.lst (ds.map Def.enc))]), (1, .cells [.t (.int .i64 x.kind), .t (.str x.name), .t (.lst (x.implements.map sE)), .t (.lst (x.dirs.map Dir.enc)), .t (.lst (x.fields.map Field.enc)), .t (.lst (x.members.map Member.enc)), .t (.lst (x.inputs.map Input.enc))])], 2⟩ }) (fun r2 j n => ds.foldl lgDef 0 = r.foldl lgDef (r2.foldl lgFld n)) 2 n1 rfl (by rw [hinv']) rfl rfl rfl ?_ ?_
      · rintro n2 hinv2
        refine fR rfl ?_
        refine lM rfl rfl rfl ?_
        refine fM rfl ?_
        refine Run.condF rfl rfl (by simp) ?_
        refine fR rfl ?_
        refine aL rfl rfl rfl rfl rfl ?_
        refine fM rfl ?_
        exact rWeak 1 rfl (ih n2 (by rw [hinv2]; rfl)) rfl rfl rfl
      · rintro j f r2 n2 h2 hj hjd hinv2 ih2
        refine fR rfl ?_
        refine lM rfl rfl rfl ?_
        refine fM rfl ?_
        refine Run.condT rfl rfl (by simp; omega) ?_
        refine fR rfl ?_
        refine Mid.elemMap rfl rfl rfl h2 rfl rfl ?_
        refine fM rfl ?_
        refine lM rfl rfl rfl ?_
        refine fM rfl ?_
        refine Mid.elemMap rfl rfl rfl h2 rfl rfl ?_
        refine fM rfl ?_
        refine lM rfl rfl rfl ?_
        refine p0 rfl ?_
        refine p0 rfl ?_
        refine fM rfl ?_
        refine aL rfl rfl rfl rfl rfl ?_
        refine fM rfl ?_
        exact rWeak 2 rfl (ih2 (lgFld n2 f) (by rw [hinv2]; rfl)) rfl rfl rfl

/- names -/
/- right types -/
/- lists of lists, Fits -/
end Go.GB.C11


/-
  E13A: documents' selections as data; chapter 13's functions: finding fragments, names.
-/
namespace Go.GB
inductive Sel where
  | mk (kind : Int) (ali name on : Str) (args : List Arg) (dirs : List Dir) (sels : List Sel)
namespace Sel
def kind : Sel → Int | .mk k _ _ _ _ _ _ => k
def ali : Sel → Str | .mk _ k _ _ _ _ _ => k
def name : Sel → Str | .mk _ _ k _ _ _ _ => k
def on : Sel → Str | .mk _ _ _ k _ _ _ => k
def args : Sel → List Arg | .mk _ _ _ _ k _ _ => k
def dirs : Sel → List Dir | .mk _ _ _ _ _ k _ => k
def sels : Sel → List Sel | .mk _ _ _ _ _ _ k => k
mutual
def enc : Sel → List T
  | .mk k a n o ar ds ss => [.int .i64 k, .str a, .str n, .str o, .lst (ar.map Arg.enc), .lst (ds.map Dir.enc), .lst (encs ss)]
def encs : List Sel → List (List T)
  | [] => []
  | v :: r => v.enc :: encs r
end
theorem encs_map : ∀ l : List Sel, encs l = l.map enc
  | [] => by simp [encs]
  | v :: r => by simp [encs, encs_map r]
def cs (v : Sel) : List T := [.int .i64 v.kind, .str v.ali, .str v.name, .str v.on, .lst (v.args.map Arg.enc), .lst (v.dirs.map Dir.enc), .lst (v.sels.map enc)]
theorem enc_eq (v : Sel) : v.enc = v.cs := by
  cases v; simp [enc, cs, kind, ali, name, on, args, dirs, sels, encs_map]
theorem size_sels : ∀ (v : Sel) , SizeOf.sizeOf v.sels < SizeOf.sizeOf v
  | .mk k a n o ar ds ss => by simp only [sels, Sel.mk.sizeOf_spec]; omega
def v (v : Sel) : V := .agg [.t (.int .i64 v.kind), .t (.str v.ali), .t (.str v.name), .t (.str v.on), .t (.lst (v.args.map Arg.enc)), .t (.lst (v.dirs.map Dir.enc)), .t (.lst (v.sels.map enc))]
end Sel
inductive Sel.Ok : Sel → Prop where
  | mk {k : Int} {a n o : Str} {ar : List Arg} {ds : List Dir} {ss : List Sel} (h1 : a.length ≤ 140737488355328) (h2 : n.length ≤ 140737488355328) (h3 : o.length ≤ 140737488355328) (h4 : ar.length * 96 ≤ B47) (h5 : ds.length ≤ 140737488355328) (h6 : ss.length * 128 ≤ B47)
    (h7 : ∀ x, x ∈ ar → x.Ok ∧ x.name.length ≤ 140737488355328) (h8 : ∀ x, x ∈ ds → x.Ok ∧ ∀ y, y ∈ x.args → y.name.length ≤ 140737488355328) (h9 : ∀ x, x ∈ ss → Sel.Ok x) : Sel.Ok (.mk k a n o ar ds ss)
namespace Sel.Ok
theorem al {v : Sel} (h : v.Ok) : v.ali.length ≤ 140737488355328 := by cases h with | mk h1 => exact h1
theorem nm {v : Sel} (h : v.Ok) : v.name.length ≤ 140737488355328 := by cases h with | mk h1 h2 => exact h2
theorem on {v : Sel} (h : v.Ok) : v.on.length ≤ 140737488355328 := by cases h with | mk h1 h2 h3 => exact h3
theorem arl {v : Sel} (h : v.Ok) : v.args.length * 96 ≤ 140737488355328 := by cases h with | mk h1 h2 h3 h4 => exact h4
theorem dl {v : Sel} (h : v.Ok) : v.dirs.length ≤ 140737488355328 := by cases h with | mk h1 h2 h3 h4 h5 => exact h5
theorem sl {v : Sel} (h : v.Ok) : v.sels.length * 128 ≤ 140737488355328 := by cases h with | mk h1 h2 h3 h4 h5 h6 => exact h6
theorem ar {v : Sel} (h : v.Ok) : ∀ x, x ∈ v.args → x.Ok ∧ x.name.length ≤ 140737488355328 := by cases h with | mk h1 h2 h3 h4 h5 h6 h7 => exact h7
theorem d {v : Sel} (h : v.Ok) : ∀ x, x ∈ v.dirs → x.Ok ∧ ∀ y, y ∈ x.args → y.name.length ≤ 140737488355328 := by cases h with | mk h1 h2 h3 h4 h5 h6 h7 h8 => exact h8
theorem s {v : Sel} (h : v.Ok) : ∀ x, x ∈ v.sels → x.Ok := by cases h with | mk h1 h2 h3 h4 h5 h6 h7 h8 h9 => exact h9
end Sel.Ok
structure Var where
  name : Str
  ty : Ref
  has : Bool
  dflt : Val
def Var.enc (x : Var) : List T := [.str x.name, .str x.ty.name, .lst (x.ty.wraps.map nE), .bool x.has, .int .i64 x.dflt.kind, .int .i64 x.dflt.int, .str x.dflt.text, .lst (x.dflt.items.map Val.enc), .lst (x.dflt.keys.map sE)]
structure Op where
  kind : Int
  name : Str
  vars : List Var
  sels : List Sel
def Op.enc (x : Op) : List T := [.int .i64 x.kind, .str x.name, .lst (x.vars.map Var.enc), .lst (x.sels.map Sel.enc)]
structure Frag where
  name : Str
  on : Str
  sels : List Sel
def Frag.enc (x : Frag) : List T := [.str x.name, .str x.on, .lst (x.sels.map Sel.enc)]
def Frag.v (x : Frag) : V := .agg [.t (.str x.name), .t (.str x.on), .t (.lst (x.sels.map Sel.enc))]
def Frag.zero : Frag := ⟨[], [], []⟩
structure Query where
  ops : List Op
  frags : List Frag
def Query.v (q : Query) : V := .agg [.t (.lst (q.ops.map Op.enc)), .t (.lst (q.frags.map Frag.enc))]
def SelsOk (l : List Sel) : Prop := l.length * 128 ≤ 140737488355328 ∧ ∀ x, x ∈ l → x.Ok
structure Var.Ok (x : Var) : Prop where
  nm : x.name.length ≤ 140737488355328
  t : x.ty.Ok
  v : x.dflt.Ok
structure Op.Ok (x : Op) : Prop where
  nm : x.name.length ≤ 140737488355328
  vl : x.vars.length ≤ 140737488355328
  v : ∀ y, y ∈ x.vars → y.Ok
  s : SelsOk x.sels
structure Frag.Ok (x : Frag) : Prop where
  nm : x.name.length ≤ 140737488355328
  on : x.on.length ≤ 140737488355328
  s : SelsOk x.sels
theorem Frag.zero_ok : Frag.zero.Ok := ⟨by decide, by decide, by decide, by simp [Frag.zero]⟩
structure Query.Ok (q : Query) : Prop where
  ol : q.ops.length ≤ 140737488355328
  o : ∀ x, x ∈ q.ops → x.Ok
  fl : q.frags.length * 56 ≤ 140737488355328
  f : ∀ x, x ∈ q.frags → x.Ok
theorem SelsOk.sub {x : Sel} (h : x.Ok) : SelsOk x.sels := ⟨h.sl, h.s⟩
end Go.GB
namespace Go.GB.C11
open Go.GB
set_option linter.unusedSimpArgs false
set_option linter.unusedVariables false
set_option maxRecDepth 100000
set_option maxHeartbeats 2000000
structure Pr13 (P : Program) : Prop extends Pr P where
  i42 : fnInfo P 42 = some (n42, c42.bare, r42)
  i47 : fnInfo P 47 = some (n47, c47.bare, r47)
  i58 : fnInfo P 58 = some (n58, c58.bare, r58)
variable {P : Program}

def findFrag (n : Str) : List Frag → Option Frag
  | [] => none
  | d :: r => if (d.name == n) = true then some d else findFrag n r
theorem findFrag_mem {n : Str} : ∀ {l : List Frag} {d : Frag}, findFrag n l = some d → d ∈ l
  | [], d, h => by simp [findFrag] at h
  | x :: r, d, h => by
    simp only [findFrag] at h
    split at h
    · cases h; exact List.mem_cons_self ..
    · exact List.mem_cons_of_mem _ (findFrag_mem h)
theorem findFrag_name {n : Str} : ∀ {l : List Frag} {d : Frag}, findFrag n l = some d → d.name = n
  | [], d, h => by simp [findFrag] at h
  | x :: r, d, h => by
    simp only [findFrag] at h
    split at h
    · rename_i hx; cases h; simpa using hx
    · exact findFrag_name h
theorem qfind_ok (H : Pr13 P) (q : Query) (hq : q.Ok) (n : Str) : FnOk P 42 [q.v, .t (.str n)] ⟨[], 0⟩ { v := .tup [((findFrag n q.frags).getD Frag.zero).v, .t (.bool (findFrag n q.frags).isSome)] } := by
  have hl := hq.fl
  refine FnOk.run H.i42 H.mixed rfl rfl ?_
  refine fR rfl ?_
  refine lM rfl rfl rfl ?_
  refine fM rfl ?_
  refine rList q.frags (fun i (_ : Unit) => { env := [(1, .t (.str n)), (4, .ptr 1 0), (9, .t (.lst (q.frags.map Frag.enc))), (10, .t (.int .i64 q.frags.length)), (11, .t (.int .i64 i))], s := ⟨[(1, .cells [.t (.str []), .t (.str []), .nils])], 2⟩ }) (fun r i _ => findFrag n q.frags = findFrag n r) 2 () rfl rfl rfl rfl rfl ?_ ?_
  · intro _ hinv
    refine fR rfl ?_
    refine Run.condF rfl rfl (by simp) ?_
    refine fR rfl ?_
    have e : findFrag n q.frags = none := by rw [hinv]; rfl
    rw [e]
    refine Run.fin rfl (EndOk.go ?_); exact .tup2 (.agg (.cons (.t rfl) (.cons (.t rfl) (.cons (.nil rfl) .nil)))) (.t rfl)
  · intro i x r _ h1 hi hd hinv ih
    refine fR rfl ?_
    refine Run.condT rfl rfl (by simp; omega) ?_
    refine fR rfl ?_
    refine Mid.elemMap rfl rfl rfl h1 rfl rfl ?_
    refine fM rfl ?_
    refine Run.cond rfl rfl (fun h => ?_) (fun h => ?_)
    · refine fR rfl ?_
      have e : findFrag n q.frags = some x := by rw [hinv]; simp only [findFrag]; rw [if_pos h]
      rw [e]
      refine Run.fin rfl (EndOk.go ?_); exact .tup2 (.le (.same rfl)) (.t rfl)
    · refine fR rfl ?_
      refine aL rfl rfl rfl rfl rfl ?_
      refine fM rfl ?_
      have h' : ¬ (x.name == n) = true := by rw [h]; simp
      exact rWeak 2 rfl (ih () (by rw [hinv]; simp only [findFrag]; rw [if_neg h'])) rfl rfl rfl
theorem rqfind_ok (H : Pr13 P) (q : Query) (hq : q.Ok) (n : Str) : FnOk P 47 [q.v, .t (.str n)] ⟨[], 0⟩ { v := .tup [((findFrag n q.frags).getD Frag.zero).v, .t (.bool (findFrag n q.frags).isSome)] } := by
  have hl := hq.fl
  refine FnOk.run H.i47 H.mixed rfl rfl ?_
  refine fR rfl ?_
  refine rList q.frags (fun i (_ : Unit) => { env := [(1, .t (.str n)), (2, .ptr 0 0), (4, .ptr 1 0), (6, .t (.int .i64 i))], s := ⟨[(0, .cells [.t (.lst (q.ops.map Op.enc)), .t (.lst (q.frags.map Frag.enc))]), (1, .cells [.t (.str []), .t (.str []), .nils])], 2⟩ }) (fun r i _ => findFrag n q.frags = findFrag n r) 2 () rfl rfl rfl rfl rfl ?_ ?_
  · intro _ hinv
    refine fR rfl ?_
    refine lM rfl rfl rfl ?_
    refine fM rfl ?_
    refine Run.condF rfl rfl (by simp) ?_
    refine fR rfl ?_
    have e : findFrag n q.frags = none := by rw [hinv]; rfl
    rw [e]
    refine Run.fin rfl (EndOk.go ?_); exact .tup2 (.agg (.cons (.t rfl) (.cons (.t rfl) (.cons (.nil rfl) .nil)))) (.t rfl)
  · intro i x r _ h1 hi hd hinv ih
    refine fR rfl ?_
    refine lM rfl rfl rfl ?_
    refine fM rfl ?_
    refine Run.condT rfl rfl (by simp; omega) ?_
    refine fR rfl ?_
    refine Mid.elemMap rfl rfl rfl h1 rfl rfl ?_
    refine fM rfl ?_
    refine Run.cond rfl rfl (fun h => ?_) (fun h => ?_)
    · refine fR rfl ?_
      refine Mid.elemMap rfl rfl rfl h1 rfl rfl ?_
      refine fM rfl ?_
      have e : findFrag n q.frags = some x := by rw [hinv]; simp only [findFrag]; rw [if_pos h]
      rw [e]
      refine Run.fin rfl (EndOk.go ?_); exact .tup2 (.le (.same rfl)) (.t rfl)
    · refine fR rfl ?_
      refine aL rfl rfl rfl rfl rfl ?_
      refine fM rfl ?_
      have h' : ¬ (x.name == n) = true := by rw [h]; simp
      exact rWeak 2 rfl (ih () (by rw [hinv]; simp only [findFrag]; rw [if_neg h'])) rfl rfl rfl
end Go.GB.C11


/-
  H18A: chapter 18: values are copied, found and compared with themselves.
-/
namespace Go.GB.C18
open Go.GB Go.GB.C11
set_option linter.unusedSimpArgs false
set_option linter.unusedVariables false
set_option maxRecDepth 100000
set_option maxHeartbeats 4000000
structure Pr18 (P : Program) : Prop extends Pr13 P where
  i3 : fnInfo P 3 = some (n3, c3.bare, r3)
  i4 : fnInfo P 4 = some (n4, c4.bare, r4)
  i8 : fnInfo P 8 = some (n8, c8.bare, r8)
  i9 : fnInfo P 9 = some (n9, c9.bare, r9)
  i10 : fnInfo P 10 = some (n10, c10.bare, r10)
  i11 : fnInfo P 11 = some (n11, c11.bare, r11)
  i12 : fnInfo P 12 = some (n12, c12.bare, r12)
  i13 : fnInfo P 13 = some (n13, c13.bare, r13)
  i14 : fnInfo P 14 = some (n14, c14.bare, r14)
  i15 : fnInfo P 15 = some (n15, c15.bare, r15)
  i16 : fnInfo P 16 = some (n16, c16.bare, r16)
  i17 : fnInfo P 17 = some (n17, c17.bare, r17)
  i22 : fnInfo P 22 = some (n22, c22.bare, r22)
  i24 : fnInfo P 24 = some (n24, c24.bare, r24)
  i25 : fnInfo P 25 = some (n25, c25.bare, r25)
  i26 : fnInfo P 26 = some (n26, c26.bare, r26)
  i27 : fnInfo P 27 = some (n27, c27.bare, r27)
  i28 : fnInfo P 28 = some (n28, c28.bare, r28)
  i29 : fnInfo P 29 = some (n29, c29.bare, r29)
  i30 : fnInfo P 30 = some (n30, c30.bare, r30)
  i31 : fnInfo P 31 = some (n31, c31.bare, r31)
  i32 : fnInfo P 32 = some (n32, c32.bare, r32)
  i35 : fnInfo P 35 = some (n35, c35.bare, r35)
  i36 : fnInfo P 36 = some (n36, c36.bare, r36)
  i37 : fnInfo P 37 = some (n37, c37.bare, r37)
  i38 : fnInfo P 38 = some (n38, c38.bare, r38)
  i39 : fnInfo P 39 = some (n39, c39.bare, r39)
  i40 : fnInfo P 40 = some (n40, c40.bare, r40)
  i41 : fnInfo P 41 = some (n41, c41.bare, r41)
  i43 : fnInfo P 43 = some (n43, c43.bare, r43)
  i44 : fnInfo P 44 = some (n44, c44.bare, r44)
  i46 : fnInfo P 46 = some (n46, c46.bare, r46)
  i48 : fnInfo P 48 = some (n48, c48.bare, r48)
  i49 : fnInfo P 49 = some (n49, c49.bare, r49)
  i50 : fnInfo P 50 = some (n50, c50.bare, r50)
  i51 : fnInfo P 51 = some (n51, c51.bare, r51)
  i52 : fnInfo P 52 = some (n52, c52.bare, r52)
  i56 : fnInfo P 56 = some (n56, c56.bare, r56)
  i57 : fnInfo P 57 = some (n57, c57.bare, r57)
  i59 : fnInfo P 59 = some (n59, c59.bare, r59)
  i60 : fnInfo P 60 = some (n60, c60.bare, r60)
  i63 : fnInfo P 63 = some (n63, c63.bare, r63)
  i64 : fnInfo P 64 = some (n64, c64.bare, r64)
  i65 : fnInfo P 65 = some (n65, c65.bare, r65)
  i66 : fnInfo P 66 = some (n66, c66.bare, r66)
  i67 : fnInfo P 67 = some (n67, c67.bare, r67)
  i71 : fnInfo P 71 = some (n71, c71.bare, r71)
  i72 : fnInfo P 72 = some (n72, c72.bare, r72)
  i73 : fnInfo P 73 = some (n73, c73.bare, r73)
  i74 : fnInfo P 74 = some (n74, c74.bare, r74)
variable {P : Program}
theorem clone18_ok (H : Pr18 P) (l : List Str) (hl : l.length * 16 ≤ 140737488355328) : FnOk P 66 [.t (.lst (l.map sE))] ⟨[], 0⟩ { v := .t (.lst (l.map sE)) } := by
  refine FnOk.run H.i66 H.mixed rfl rfl ?_
  refine fR rfl ?_
  refine p0 rfl ?_
  refine fM rfl ?_
  refine Run.condU rfl rfl (fun h => ?_) (fun _ => ?_)
  · have hn : l = [] := by
      cases l with
      | nil => rfl
      | cons x r =>
        have := h (sE x) (by simp)
        simp [sE] at this
    subst hn
    refine fR rfl ?_
    refine Run.fin rfl (EndOk.go ?_); exact .nil rfl
  · refine fR rfl ?_
    refine apN sE l rfl rfl rfl ?_ (h1 := hl) (h2 := by omega)
    refine fM rfl ?_
    refine Run.fin rfl (EndOk.go ?_); exact .own rfl

def CopyC (P : Program) (v : Val) : Prop := FnOk P 56 [v.v] ⟨[], 0⟩ { v := v.v }
theorem copies_step (H : Pr18 P) (l : List Val) (hl : l.length * 80 ≤ 140737488355328) (hrec : ∀ x, x ∈ l → CopyC P x) : FnOk P 65 [.t (.lst (l.map Val.enc))] ⟨[], 0⟩ { v := .t (.lst (l.map Val.enc)) } := by
  refine FnOk.run H.i65 H.mixed rfl rfl ?_
  refine fR rfl ?_
  refine lM rfl rfl rfl ?_
  refine fM rfl ?_
  refine rList l (fun i (B : List Val) => { env := [(3, .own 0 5 (B.map Val.enc)), (6, .t (.lst (l.map Val.enc))), (7, .t (.int .i64 l.length)), (8, .t (.int .i64 i))], s := ⟨[(0, .arr B.length)], 1⟩ }) (fun r i B => B.length = i ∧ B ++ r = l) 0 [] rfl ⟨rfl, rfl⟩ rfl rfl rfl ?_ ?_
  · rintro B ⟨hBl, hB⟩
    have e : B = l := by rw [← hB]; simp
    refine fR rfl ?_
    refine Run.condF rfl rfl (by simp) ?_
    refine fR rfl ?_
    refine Run.fin rfl (EndOk.go ?_); exact .own (by rw [e])
  · rintro i x r B h1 hi hd ⟨hBl, hB⟩ ih
    have hBl' : B.length = i := hBl
    have hc := hrec x (List.mem_of_getElem? h1)
    unfold CopyC at hc
    refine fR rfl ?_
    refine Run.condT rfl rfl (by simp; omega) ?_
    refine fR rfl ?_
    refine Mid.elemMapC (Val.enc_eq x) rfl rfl rfl h1 rfl rfl ?_
    refine fM rfl ?_
    refine Mid.call (hc) rfl rfl rfl rfl ?_
    refine fM rfl ?_
    refine apM Val.enc B [x] rfl (congrArg (fun c => some (T.lst [c])) (Val.enc_eq x).symm) rfl rfl rfl ?_ (hl := fun x => (congrArg List.length (Val.enc_eq x)).trans rfl)
    refine fM rfl ?_
    refine aL rfl rfl rfl rfl rfl ?_
    refine fM rfl ?_
    exact rWeak 1 rfl (ih (B ++ [x]) ⟨by simp; omega, by rw [← hB]; simp⟩) rfl rfl rfl
theorem copy_step (H : Pr18 P) (v : Val) (hv : v.Ok) (hrec : ∀ x, x ∈ v.items → CopyC P x) : CopyC P v := by
  have hil := hv.il
  have hkl := hv.kl
  unfold CopyC
  refine FnOk.run H.i56 H.mixed rfl rfl ?_
  refine fR rfl ?_
  refine Mid.call (copies_step H v.items hil hrec) rfl rfl rfl rfl ?_
  refine fM rfl ?_
  refine Mid.call (clone18_ok H v.keys hkl) rfl rfl rfl rfl ?_
  refine fM rfl ?_
  refine Run.fin rfl (EndOk.go ?_); exact .le (.same rfl)
theorem copy_ok' (H : Pr18 P) : ∀ (k : Nat) (v : Val), SizeOf.sizeOf v ≤ k → v.Ok → CopyC P v
  | 0, v, h, _ => by cases v; simp at h
  | k + 1, v, h, hv => copy_step H v hv fun x hx => copy_ok' H k x (by have := Val.size_items v hx; omega) (hv.it x hx)
theorem copy_ok (H : Pr18 P) (v : Val) (hv : v.Ok) : FnOk P 56 [v.v] ⟨[], 0⟩ { v := v.v } := copy_ok' H _ v (Nat.le_refl _) hv

def RCopyC (P : Program) (v : Val) : Prop := FnOk P 57 [v.v] ⟨[], 0⟩ { v := v.v }
theorem rcopies_step (H : Pr18 P) (l : List Val) (hl : l.length * 80 ≤ 140737488355328) (hrec : ∀ x, x ∈ l → RCopyC P x) : FnOk P 67 [.t (.lst (l.map Val.enc))] ⟨[], 0⟩ { v := .t (.lst (l.map Val.enc)) } := by
  refine FnOk.run H.i67 H.mixed rfl rfl ?_
  refine fR rfl ?_
  refine rList l (fun i (B : List Val) => { env := [(0, .t (.lst (l.map Val.enc))), (3, .own 0 5 (B.map Val.enc)), (4, .t (.int .i64 i))], s := ⟨[(0, .arr B.length)], 1⟩ }) (fun r i B => B.length = i ∧ B ++ r = l) 0 [] rfl ⟨rfl, rfl⟩ rfl rfl rfl ?_ ?_
  · rintro B ⟨hBl, hB⟩
    have e : B = l := by rw [← hB]; simp
    refine fR rfl ?_
    refine lM rfl rfl rfl ?_
    refine fM rfl ?_
    refine Run.condF rfl rfl (by simp) ?_
    refine fR rfl ?_
    refine Run.fin rfl (EndOk.go ?_); exact .own (by rw [e])
  · rintro i x r B h1 hi hd ⟨hBl, hB⟩ ih
    have hBl' : B.length = i := hBl
    have hc := hrec x (List.mem_of_getElem? h1)
    unfold RCopyC at hc
    refine fR rfl ?_
    refine lM rfl rfl rfl ?_
    refine fM rfl ?_
    refine Run.condT rfl rfl (by simp; omega) ?_
    refine fR rfl ?_
    refine Mid.elemMapC (Val.enc_eq x) rfl rfl rfl h1 rfl rfl ?_
    refine fM rfl ?_
    refine Mid.call (hc) rfl rfl rfl rfl ?_
    refine fM rfl ?_
    refine apM Val.enc B [x] rfl (congrArg (fun c => some (T.lst [c])) (Val.enc_eq x).symm) rfl rfl rfl ?_ (hl := fun x => (congrArg List.length (Val.enc_eq x)).trans rfl)
    refine fM rfl ?_
    refine aL rfl rfl rfl rfl rfl ?_
    refine fM rfl ?_
    exact rWeak 1 rfl (ih (B ++ [x]) ⟨by simp; omega, by rw [← hB]; simp⟩) rfl rfl rfl
theorem rcopy_step (H : Pr18 P) (v : Val) (hv : v.Ok) (hrec : ∀ x, x ∈ v.items → RCopyC P x) : RCopyC P v := by
  have hil := hv.il
  have hkl := hv.kl
  unfold RCopyC
  refine FnOk.run H.i57 H.mixed rfl rfl ?_
  refine fR rfl ?_
  refine Mid.call (rcopies_step H v.items hil hrec) rfl rfl rfl rfl ?_
  refine fM rfl ?_
  refine apN sE v.keys rfl rfl rfl ?_ (h1 := by first | omega | (simp; omega) | (simp; done)) (h2 := by first | omega | (simp; omega) | (simp; done))
  refine fM rfl ?_
  refine Run.fin rfl (EndOk.go ?_); exact .agg (.cons (.t rfl) (.cons (.t rfl) (.cons (.t rfl) (.cons (.t rfl) (.cons (.own rfl) .nil)))))
theorem rcopy_ok' (H : Pr18 P) : ∀ (k : Nat) (v : Val), SizeOf.sizeOf v ≤ k → v.Ok → RCopyC P v
  | 0, v, h, _ => by cases v; simp at h
  | k + 1, v, h, hv => rcopy_step H v hv fun x hx => rcopy_ok' H k x (by have := Val.size_items v hx; omega) (hv.it x hx)
theorem rcopy_ok (H : Pr18 P) (v : Val) (hv : v.Ok) : FnOk P 57 [v.v] ⟨[], 0⟩ { v := v.v } := rcopy_ok' H _ v (Nat.le_refl _) hv

theorem zeroR {m : Nat} {s : S} : LeR m s (.agg [.t (.int .i64 0), .t (.int .i64 0), .t (.str []), .nils, .nils]) Val.zero.v := .agg (.cons (.t rfl) (.cons (.t rfl) (.cons (.t rfl) (.cons (.nil rfl) (.cons (.nil rfl) .nil)))))
/- a member of an object -/
def idxF (k : Str) : List Str → Option Nat
  | [] => none
  | x :: r => if x = k then some 0 else (idxF k r).map (· + 1)
theorem indexS_eq (k : Str) : ∀ (l : List Str) (i : Int), indexS k l i = match idxF k l with | some j => i + j | none => -1
  | [], i => rfl
  | x :: r, i => by
    simp only [indexS, idxF]
    by_cases h : x = k
    · subst h; simp
    · have h' : ¬ (k == x) = true := by simp [Ne.symm h]
      rw [if_neg h', if_neg h, indexS_eq k r (i + 1)]
      cases idxF k r with
      | none => rfl
      | some j => show i + 1 + (j : Int) = i + ((j + 1 : Nat) : Int); omega
theorem idxF_lt {k : Str} : ∀ {l : List Str} {j : Nat}, idxF k l = some j → j < l.length
  | [], j, h => by simp [idxF] at h
  | x :: r, j, h => by
    simp only [idxF] at h
    split at h
    · simp at h; subst h; simp
    · cases hr : idxF k r with
      | none => rw [hr] at h; simp at h
      | some i => rw [hr] at h; simp at h; subst h; have := idxF_lt hr; simp; omega
def getF (v : Val) (k : Str) : Option Val := if v.kind = 6 then match idxF k v.keys with | some j => v.items[j]? | none => none else none
theorem get_ok (H : Pr18 P) (v : Val) (hv : v.Ok) (k : Str) : FnOk P 36 [v.v, .t (.str k)] ⟨[], 0⟩ { v := .tup [((getF v k).getD Val.zero).v, .t (.bool (getF v k).isSome)] } := by
  have hkl := hv.kl
  have hil := hv.il
  have hidx := index_ok H.toPr v.keys (by omega) k
  rw [indexS_eq] at hidx
  unfold getF
  refine FnOk.run H.i36 H.mixed rfl rfl ?_
  refine fR rfl ?_
  by_cases hk : v.kind = 6
  · simp only [hk, if_true]
    cases hj : idxF k v.keys with
    | none =>
      rw [hj] at hidx
      refine Mid.call (hidx) rfl rfl rfl rfl ?_
      refine fM rfl ?_
      refine lMG rfl rfl rfl rfl ?_
      refine fM rfl ?_
      refine Run.condT rfl rfl (by simp [hk]) ?_
      refine fR rfl ?_
      refine Run.fin rfl (EndOk.go ?_); exact .tup2 zeroR (.t rfl)
    | some j =>
      rw [hj] at hidx
      simp only [Int.zero_add] at hidx
      have hjl := idxF_lt hj
      refine Mid.call (hidx) rfl rfl rfl rfl ?_
      refine fM rfl ?_
      refine lMG rfl rfl rfl rfl ?_
      refine fM rfl ?_
      by_cases hlt : j < v.items.length
      · obtain ⟨x, hx⟩ : ∃ x, v.items[j]? = some x := ⟨v.items[j], by simp [hlt]⟩
        refine Run.condF rfl rfl (by simp [hk]; omega) ?_
        simp only [hx, Option.getD_some, Option.isSome_some]
        refine fR rfl ?_
        refine Mid.elemMapC (Val.enc_eq x) rfl rfl rfl hx rfl rfl ?_
        refine fM rfl ?_
        refine Mid.call (copy_ok H x (hv.it x (List.mem_of_getElem? hx))) rfl rfl rfl rfl ?_
        refine fM rfl ?_
        refine Run.fin rfl (EndOk.go ?_); exact .tup2 (.le (.same rfl)) (.t rfl)
      · have hx : v.items[j]? = none := List.getElem?_eq_none (by omega)
        refine Run.condT rfl rfl (by simp [hk]; omega) ?_
        simp only [hx, Option.getD_none, Option.isSome_none]
        refine fR rfl ?_
        refine Run.fin rfl (EndOk.go ?_); exact .tup2 zeroR (.t rfl)
  · simp only [hk, if_false]
    refine Mid.call (hidx) rfl rfl rfl rfl ?_
    refine fM rfl ?_
    refine lMG rfl rfl rfl rfl ?_
    refine fM rfl ?_
    refine Run.condT rfl rfl (by simp [hk]) ?_
    refine fR rfl ?_
    refine Run.fin rfl (EndOk.go ?_); exact .tup2 zeroR (.t rfl)
theorem rget_ok (H : Pr18 P) (v : Val) (hv : v.Ok) (k : Str) : FnOk P 38 [v.v, .t (.str k)] ⟨[], 0⟩ { v := .tup [((getF v k).getD Val.zero).v, .t (.bool (getF v k).isSome)] } := by
  have hkl := hv.kl
  have hil := hv.il
  refine FnOk.run H.i38 H.mixed rfl rfl ?_
  refine fR rfl ?_
  by_cases hk : v.kind = 6
  · have hg : getF v k = match idxF k v.keys with | some j => v.items[j]? | none => none := by unfold getF; rw [if_pos hk]
    refine Run.condF rfl rfl (by simp [hk]) ?_
    refine fR rfl ?_
    refine rList v.keys (fun i (_ : Unit) => { env := [(1, .t (.str k)), (2, .ptr 0 0), (4, .ptr 1 0), (6, .t (.int .i64 i))], s := ⟨[(0, (.cells [.t (.int .i64 v.kind), .t (.int .i64 v.int), .t (.str v.text), .t (.lst (v.items.map Val.enc)), .t (.lst (v.keys.map sE))])), (1, .cells [.t (.int .i64 0), .t (.int .i64 0), .t (.str []), .nils, .nils])], 2⟩ }) (fun r i _ => idxF k v.keys = (idxF k r).map (· + i)) 2 () rfl (by cases idxF k v.keys <;> rfl) rfl rfl rfl ?_ ?_
    · rintro _ hinv
      rw [hg, hinv]
      refine fR rfl ?_
      refine lM rfl rfl rfl ?_
      refine fM rfl ?_
      refine Run.condF rfl rfl (by simp) ?_
      refine fR rfl ?_
      refine Run.fin rfl (EndOk.go ?_); exact .tup2 zeroR (.t rfl)
    · rintro i x r _ h1 hi hd hinv ih
      refine fR rfl ?_
      refine lM rfl rfl rfl ?_
      refine fM rfl ?_
      refine Run.condT rfl rfl (by simp; omega) ?_
      refine fR rfl ?_
      refine Mid.elemMap rfl rfl rfl h1 rfl rfl ?_
      refine fM rfl ?_
      refine Run.cond rfl rfl (fun hc => ?_) (fun hc => ?_)
      · have hx : x = k := by simpa using hc
        have hj : idxF k v.keys = some i := by rw [hinv]; simp [idxF, hx]
        rw [hg, hj]
        refine fR rfl ?_
        refine lM rfl rfl rfl ?_
        refine fM rfl ?_
        by_cases hlt : i < v.items.length
        · obtain ⟨y, hy⟩ : ∃ y, v.items[i]? = some y := ⟨v.items[i], by simp [hlt]⟩
          refine Run.condF rfl rfl (by simp; omega) ?_
          simp only [hy, Option.getD_some, Option.isSome_some]
          refine fR rfl ?_
          refine Mid.elemMapC (Val.enc_eq y) rfl rfl rfl hy rfl rfl ?_
          refine fM rfl ?_
          refine Mid.call (rcopy_ok H y (hv.it y (List.mem_of_getElem? hy))) rfl rfl rfl rfl ?_
          refine fM rfl ?_
          refine Run.fin rfl (EndOk.go ?_); exact .tup2 (.le (.same rfl)) (.t rfl)
        · have hy : v.items[i]? = none := List.getElem?_eq_none (by omega)
          refine Run.condT rfl rfl (by simp; omega) ?_
          simp only [hy, Option.getD_none, Option.isSome_none]
          refine fR rfl ?_
          refine Run.fin rfl (EndOk.go ?_); exact .tup2 zeroR (.t rfl)
      · have hx : ¬ x = k := by simpa using hc
        refine fR rfl ?_
        refine aL rfl rfl rfl rfl rfl ?_
        refine fM rfl ?_
        exact rWeak 2 rfl (ih () (by rw [hinv]; simp only [idxF, if_neg hx]; cases idxF k r with | none => rfl | some j => simp; omega)) rfl rfl rfl
  · have hg : getF v k = none := by unfold getF; rw [if_neg hk]
    rw [hg]
    refine Run.condT rfl rfl (by simp [hk]) ?_
    refine fR rfl ?_
    refine Run.fin rfl (EndOk.go ?_); exact .tup2 zeroR (.t rfl)
end Go.GB.C18


/-
  H18B: chapter 18: arguments of directives, what they include, labels.
-/
namespace Go.GB.C18
open Go.GB Go.GB.C11
set_option linter.unusedSimpArgs false
set_option linter.unusedVariables false
set_option maxRecDepth 100000
set_option maxHeartbeats 4000000
variable {P : Program}
def argF (a : Str) : List Arg → Option Val
  | [] => none
  | x :: r => if x.name = a then some x.val else argF a r
theorem argF_ok {a : Str} {v : Val} : ∀ {l : List Arg}, (∀ x, x ∈ l → x.Ok) → argF a l = some v → v.Ok
  | [], _, h => by simp [argF] at h
  | x :: r, hl, h => by
    simp only [argF] at h
    split at h
    · simp at h; subst h; exact hl x (by simp)
    · exact argF_ok (fun y hy => hl y (by simp [hy])) h
theorem argG_ok {a : Str} {l : List Arg} (hl : ∀ x, x ∈ l → x.Ok) : ((argF a l).getD Val.zero).Ok := by
  cases h : argF a l with
  | none => exact Val.zero_ok
  | some v => exact argF_ok hl h
theorem argument_ok (H : Pr18 P) (d : Dir) (hd : d.args.length ≤ 140737488355328) (a : Str) : FnOk P 35 [d.v, .t (.str a)] ⟨[], 0⟩ { v := .tup [((argF a d.args).getD Val.zero).v, .t (.bool (argF a d.args).isSome)] } := by
  refine FnOk.run H.i35 H.mixed rfl rfl ?_
  refine fR rfl ?_
  refine lM rfl rfl rfl ?_
  refine fM rfl ?_
  refine rList d.args (fun i (_ : Unit) => { env := [(1, .t (.str a)), (4, .ptr 1 0), (9, .t (.lst (d.args.map Arg.enc))), (10, .t (.int .i64 d.args.length)), (11, .t (.int .i64 i))], s := ⟨[(0, .cells [.t (.str d.name), .t (.lst (d.args.map Arg.enc))]), (1, .cells [.t (.int .i64 0), .t (.int .i64 0), .t (.str []), .nils, .nils])], 2⟩ }) (fun r i _ => argF a d.args = argF a r) 2 () rfl rfl rfl rfl rfl ?_ ?_
  · rintro _ hinv
    rw [hinv]
    refine fR rfl ?_
    refine Run.condF rfl rfl (by simp) ?_
    refine fR rfl ?_
    refine Run.fin rfl (EndOk.go ?_); exact .tup2 zeroR (.t rfl)
  · rintro i x r _ h1 hi hdr hinv ih
    refine fR rfl ?_
    refine Run.condT rfl rfl (by simp; omega) ?_
    refine fR rfl ?_
    refine Mid.elemMap rfl rfl rfl h1 rfl rfl ?_
    refine fM rfl ?_
    refine Run.cond rfl rfl (fun hc => ?_) (fun hc => ?_)
    · have hx : x.name = a := by simpa using hc
      have e : argF a d.args = some x.val := by rw [hinv]; simp [argF, hx]
      rw [e]
      refine fR rfl ?_
      refine Run.fin rfl (EndOk.go ?_); exact .tup2 (.le (.same rfl)) (.t rfl)
    · have hx : ¬ x.name = a := by simpa using hc
      refine fR rfl ?_
      refine aL rfl rfl rfl rfl rfl ?_
      refine fM rfl ?_
      exact rWeak 2 rfl (ih () (by rw [hinv]; simp only [argF, if_neg hx])) rfl rfl rfl
theorem rargument_ok (H : Pr18 P) (d : Dir) (hd : d.args.length ≤ 140737488355328) (a : Str) : FnOk P 37 [d.v, .t (.str a)] ⟨[], 0⟩ { v := .tup [((argF a d.args).getD Val.zero).v, .t (.bool (argF a d.args).isSome)] } := by
  refine FnOk.run H.i37 H.mixed rfl rfl ?_
  refine fR rfl ?_
  refine rList d.args (fun i (_ : Unit) => { env := [(1, .t (.str a)), (2, .ptr 0 0), (4, .ptr 1 0), (6, .t (.int .i64 i))], s := ⟨[(0, .cells [.t (.str d.name), .t (.lst (d.args.map Arg.enc))]), (1, .cells [.t (.int .i64 0), .t (.int .i64 0), .t (.str []), .nils, .nils])], 2⟩ }) (fun r i _ => argF a d.args = argF a r) 2 () rfl rfl rfl rfl rfl ?_ ?_
  · rintro _ hinv
    rw [hinv]
    refine fR rfl ?_
    refine lM rfl rfl rfl ?_
    refine fM rfl ?_
    refine Run.condF rfl rfl (by simp) ?_
    refine fR rfl ?_
    refine Run.fin rfl (EndOk.go ?_); exact .tup2 zeroR (.t rfl)
  · rintro i x r _ h1 hi hdr hinv ih
    refine fR rfl ?_
    refine lM rfl rfl rfl ?_
    refine fM rfl ?_
    refine Run.condT rfl rfl (by simp; omega) ?_
    refine fR rfl ?_
    refine Mid.elemMap rfl rfl rfl h1 rfl rfl ?_
    refine fM rfl ?_
    refine Run.cond rfl rfl (fun hc => ?_) (fun hc => ?_)
    · have hx : x.name = a := by simpa using hc
      have e : argF a d.args = some x.val := by rw [hinv]; simp [argF, hx]
      rw [e]
      refine fR rfl ?_
      refine Mid.elemMap rfl rfl rfl h1 rfl rfl ?_
      refine fM rfl ?_
      refine Run.fin rfl (EndOk.go ?_); exact .tup2 (.le (.same rfl)) (.t rfl)
    · have hx : ¬ x.name = a := by simpa using hc
      refine fR rfl ?_
      refine aL rfl rfl rfl rfl rfl ?_
      refine fM rfl ?_
      exact rWeak 2 rfl (ih () (by rw [hinv]; simp only [argF, if_neg hx])) rfl rfl rfl
def holdsF (d : Dir) (vars : Val) : Bool :=
  let v := (argF [105, 102] d.args).getD Val.zero
  let w := if v.kind = 7 then (getF vars v.text).getD Val.zero else v
  w.kind == 1 && w.int == 1
theorem holds_ok (H : Pr18 P) (d : Dir) (hd : d.Ok) (vars : Val) (hv : vars.Ok) : FnOk P 25 [d.v, vars.v] ⟨[], 0⟩ { v := .t (.bool (holdsF d vars)) } := by
  have h1 := argument_ok H d hd.l [105, 102]
  have hw := argG_ok (a := [105, 102]) hd.a
  unfold holdsF
  generalize (argF [105, 102] d.args).getD Val.zero = v at *
  generalize (argF [105, 102] d.args).isSome = sm at *
  dsimp only
  refine FnOk.run H.i25 H.mixed rfl rfl ?_
  refine fR rfl ?_
  refine Mid.call (h1) rfl rfl rfl rfl ?_
  refine fM rfl ?_
  refine Run.cond rfl rfl (fun hc => ?_) (fun hc => ?_)
  · have hk : v.kind = 7 := by simpa using hc
    rw [if_pos hk]
    refine fR rfl ?_
    refine Mid.call (get_ok H vars hv v.text) rfl rfl rfl rfl ?_
    refine fM rfl ?_
    refine Run.fin rfl (EndOk.go ?_); exact .t rfl
  · have hk : ¬ v.kind = 7 := by simpa using hc
    rw [if_neg hk]
    refine fR rfl ?_
    refine Run.fin rfl (EndOk.go ?_); exact .t rfl
theorem rholds_ok (H : Pr18 P) (d : Dir) (hd : d.Ok) (vars : Val) (hv : vars.Ok) : FnOk P 26 [d.v, vars.v] ⟨[], 0⟩ { v := .t (.bool (holdsF d vars)) } := by
  have h1 := rargument_ok H d hd.l [105, 102]
  have hw := argG_ok (a := [105, 102]) hd.a
  unfold holdsF
  generalize (argF [105, 102] d.args).getD Val.zero = v at *
  generalize (argF [105, 102] d.args).isSome = sm at *
  dsimp only
  refine FnOk.run H.i26 H.mixed rfl rfl ?_
  refine fR rfl ?_
  refine Mid.call (h1) rfl rfl rfl rfl ?_
  refine fM rfl ?_
  refine Run.cond rfl rfl (fun hc => ?_) (fun hc => ?_)
  · have hk : v.kind = 7 := by simpa using hc
    rw [if_pos hk]
    refine fR rfl ?_
    refine Mid.call (rget_ok H vars hv v.text) rfl rfl rfl rfl ?_
    refine fM rfl ?_
    refine Run.fin rfl (EndOk.go ?_); exact .t rfl
  · have hk : ¬ v.kind = 7 := by simpa using hc
    rw [if_neg hk]
    refine fR rfl ?_
    refine Run.fin rfl (EndOk.go ?_); exact .t rfl
structure DirsOk (ls : List Dir) : Prop where
  l : ls.length ≤ 140737488355328
  d : ∀ x : Dir, x ∈ ls → x.Ok
def badD (vars : Val) (x : Dir) : Bool := (x.name == [115, 107, 105, 112] && holdsF x vars) || (x.name == [105, 110, 99, 108, 117, 100, 101] && !holdsF x vars)
def incF (vars : Val) : List Dir → Bool
  | [] => true
  | x :: r => if badD vars x = true then false else incF vars r
theorem included_ok (H : Pr18 P) (l : List Dir) (hl : DirsOk l) (vars : Val) (hv : vars.Ok) : FnOk P 9 [.t (.lst (l.map Dir.enc)), vars.v] ⟨[], 0⟩ { v := .t (.bool (incF vars l)) } := by
  have hll := hl.l
  refine FnOk.run H.i9 H.mixed rfl rfl ?_
  refine fR rfl ?_
  refine lM rfl rfl rfl ?_
  refine fM rfl ?_
  refine rList l (fun i (_ : Unit) => { env := [(3, .ptr 0 0), (7, .t (.lst (l.map Dir.enc))), (8, .t (.int .i64 l.length)), (9, .t (.int .i64 i))], s := ⟨[(0, .cells [.t (.int .i64 vars.kind), .t (.int .i64 vars.int), .t (.str vars.text), .t (.lst (vars.items.map Val.enc)), .t (.lst (vars.keys.map sE))])], 1⟩ }) (fun r i _ => incF vars l = incF vars r) 1 () rfl rfl rfl rfl rfl ?_ ?_
  · rintro _ hinv
    rw [hinv]
    refine fR rfl ?_
    refine Run.condF rfl rfl (by simp) ?_
    refine fR rfl ?_
    refine Run.fin rfl (EndOk.go ?_); exact .t rfl
  · rintro i x r _ h1 hi hdr hinv ih
    have hx := hl.d x (List.mem_of_getElem? h1)
    refine fR rfl ?_
    refine Run.condT rfl rfl (by simp; omega) ?_
    refine fR rfl ?_
    refine Mid.elemMap rfl rfl rfl h1 rfl rfl ?_
    refine fM rfl ?_
    refine caG rfl rfl (fun hg => ⟨_, rfl, holds_ok H x hx vars hv, rfl⟩) rfl rfl ?_
    refine fM rfl ?_
    refine caG rfl rfl (fun hg => ⟨_, rfl, holds_ok H x hx vars hv, rfl⟩) rfl rfl ?_
    refine fM rfl ?_
    refine Run.cond rfl rfl (fun hc => ?_) (fun hc => ?_)
    · have e : badD vars x = true := by
        unfold badD
        generalize holdsF x vars = h at *
        generalize (x.name == [115, 107, 105, 112]) = b1 at *
        generalize (x.name == [105, 110, 99, 108, 117, 100, 101]) = b2 at *
        revert hc; cases b1 <;> cases b2 <;> cases h <;> simp
      rw [hinv]
      simp only [incF, e, if_true]
      refine fR rfl ?_
      refine Run.fin rfl (EndOk.go ?_); exact .t rfl
    · have e : badD vars x = false := by
        unfold badD
        generalize holdsF x vars = h at *
        generalize (x.name == [115, 107, 105, 112]) = b1 at *
        generalize (x.name == [105, 110, 99, 108, 117, 100, 101]) = b2 at *
        revert hc; cases b1 <;> cases b2 <;> cases h <;> simp
      refine fR rfl ?_
      refine aL rfl rfl rfl rfl rfl ?_
      refine fM rfl ?_
      exact rWeak 1 rfl (ih () (by rw [hinv]; simp [incF, e])) rfl rfl rfl
theorem rincluded_ok (H : Pr18 P) (l : List Dir) (hl : DirsOk l) (vars : Val) (hv : vars.Ok) : FnOk P 10 [.t (.lst (l.map Dir.enc)), vars.v] ⟨[], 0⟩ { v := .t (.bool (incF vars l)) } := by
  have hll := hl.l
  refine FnOk.run H.i10 H.mixed rfl rfl ?_
  refine fR rfl ?_
  refine rList l (fun i (_ : Unit) => { env := [(0, .t (.lst (l.map Dir.enc))), (3, .ptr 0 0), (5, .t (.int .i64 i))], s := ⟨[(0, .cells [.t (.int .i64 vars.kind), .t (.int .i64 vars.int), .t (.str vars.text), .t (.lst (vars.items.map Val.enc)), .t (.lst (vars.keys.map sE))])], 1⟩ }) (fun r i _ => incF vars l = incF vars r) 1 () rfl rfl rfl rfl rfl ?_ ?_
  · rintro _ hinv
    rw [hinv]
    refine fR rfl ?_
    refine lM rfl rfl rfl ?_
    refine fM rfl ?_
    refine Run.condF rfl rfl (by simp) ?_
    refine fR rfl ?_
    refine Run.fin rfl (EndOk.go ?_); exact .t rfl
  · rintro i x r _ h1 hi hdr hinv ih
    have hx := hl.d x (List.mem_of_getElem? h1)
    refine fR rfl ?_
    refine lM rfl rfl rfl ?_
    refine fM rfl ?_
    refine Run.condT rfl rfl (by simp; omega) ?_
    refine fR rfl ?_
    refine Mid.elemMap rfl rfl rfl h1 rfl rfl ?_
    refine fM rfl ?_
    refine elG rfl rfl rfl rfl h1 rfl rfl ?_
    refine fM rfl ?_
    refine caG rfl rfl (fun hg => ⟨_, rfl, rholds_ok H x hx vars hv, rfl⟩) rfl rfl ?_
    refine fM rfl ?_
    refine elG rfl rfl rfl rfl h1 rfl rfl ?_
    refine fM rfl ?_
    refine elG rfl rfl rfl rfl h1 rfl rfl ?_
    refine fM rfl ?_
    refine caG rfl rfl (fun hg => ⟨_, rfl, rholds_ok H x hx vars hv, rfl⟩) rfl rfl ?_
    refine fM rfl ?_
    refine Run.cond rfl rfl (fun hc => ?_) (fun hc => ?_)
    · have e : badD vars x = true := by
        unfold badD
        generalize holdsF x vars = h at *
        generalize (x.name == [115, 107, 105, 112]) = b1 at *
        generalize (x.name == [105, 110, 99, 108, 117, 100, 101]) = b2 at *
        revert hc; cases b1 <;> cases b2 <;> cases h <;> simp
      rw [hinv]
      simp only [incF, e, if_true]
      refine fR rfl ?_
      refine Run.fin rfl (EndOk.go ?_); exact .t rfl
    · have e : badD vars x = false := by
        unfold badD
        generalize holdsF x vars = h at *
        generalize (x.name == [115, 107, 105, 112]) = b1 at *
        generalize (x.name == [105, 110, 99, 108, 117, 100, 101]) = b2 at *
        revert hc; cases b1 <;> cases b2 <;> cases h <;> simp
      refine fR rfl ?_
      refine aL rfl rfl rfl rfl rfl ?_
      refine fM rfl ?_
      exact rWeak 1 rfl (ih () (by rw [hinv]; simp [incF, e])) rfl rfl rfl
/- labels -/
def labV (x : Dir) : Val := (argF [108, 97, 98, 101, 108] x.args).getD Val.zero
def labF (o : Str) : List Dir → Str
  | [] => o
  | x :: r => if x.name = [100, 101, 102, 101, 114] then (if (labV x).kind = 3 ∧ (labV x).text ≠ [] then (labV x).text else o) else labF o r
theorem label_ok (H : Pr18 P) (l : List Dir) (hl : DirsOk l) (o : Str) : FnOk P 41 [.t (.lst (l.map Dir.enc)), .t (.str o)] ⟨[], 0⟩ { v := .t (.str (labF o l)) } := by
  have hll := hl.l
  refine FnOk.run H.i41 H.mixed rfl rfl ?_
  refine fR rfl ?_
  refine lM rfl rfl rfl ?_
  refine fM rfl ?_
  refine rList l (fun i (_ : Unit) => { env := [(1, .t (.str o)), (9, .t (.lst (l.map Dir.enc))), (10, .t (.int .i64 l.length)), (11, .t (.int .i64 i))], s := ⟨[], 0⟩ }) (fun r i _ => labF o l = labF o r) 0 () rfl rfl rfl rfl rfl ?_ ?_
  · rintro _ hinv
    rw [hinv]
    refine fR rfl ?_
    refine Run.condF rfl rfl (by simp) ?_
    refine fR rfl ?_
    refine Run.fin rfl (EndOk.go ?_); exact .t rfl
  · rintro i x r _ h1 hi hdr hinv ih
    have hx := hl.d x (List.mem_of_getElem? h1)
    have ha := argument_ok H x hx.l [108, 97, 98, 101, 108]
    refine fR rfl ?_
    refine Run.condT rfl rfl (by simp; omega) ?_
    refine fR rfl ?_
    refine Mid.elemMap rfl rfl rfl h1 rfl rfl ?_
    refine fM rfl ?_
    refine Run.cond rfl rfl (fun hc => ?_) (fun hc => ?_)
    · have hn : x.name = [100, 101, 102, 101, 114] := by simpa using hc
      have el : labF o (x :: r) = if (labV x).kind = 3 ∧ (labV x).text ≠ [] then (labV x).text else o := by simp only [labF, hn, if_true]
      rw [hinv, el]
      cases hs : argF [108, 97, 98, 101, 108] x.args with
      | none =>
        rw [hs] at ha
        have e : ¬ ((labV x).kind = 3 ∧ (labV x).text ≠ []) := by unfold labV; rw [hs]; simp [Val.zero, Val.kind]
        rw [if_neg e]
        refine fR rfl ?_
        refine Mid.call (ha) rfl rfl rfl rfl ?_
        refine fM rfl ?_
        refine Run.condF rfl rfl rfl ?_
        refine fR rfl ?_
        refine Run.fin rfl (EndOk.go ?_); exact .t rfl
      | some v =>
        rw [hs] at ha
        have ev : labV x = v := by unfold labV; rw [hs]; rfl
        rw [ev]
        refine fR rfl ?_
        refine Mid.call (ha) rfl rfl rfl rfl ?_
        refine fM rfl ?_
        by_cases e : v.kind = 3 ∧ v.text ≠ []
        · rw [if_pos e]
          refine Run.condT rfl rfl (by simp [e]) ?_
          refine fR rfl ?_
          refine Run.fin rfl (EndOk.go ?_); exact .t rfl
        · rw [if_neg e]
          refine Run.condF rfl rfl (by simp at e ⊢; intro h; exact e h) ?_
          refine fR rfl ?_
          refine Run.fin rfl (EndOk.go ?_); exact .t rfl
    · have hn : ¬ x.name = [100, 101, 102, 101, 114] := by simpa using hc
      refine fR rfl ?_
      refine aL rfl rfl rfl rfl rfl ?_
      refine fM rfl ?_
      exact rWeak 0 rfl (ih () (by rw [hinv]; simp only [labF, if_neg hn])) rfl rfl rfl
theorem rlabel_ok (H : Pr18 P) (l : List Dir) (hl : DirsOk l) (o : Str) : FnOk P 44 [.t (.lst (l.map Dir.enc)), .t (.str o)] ⟨[], 0⟩ { v := .t (.str (labF o l)) } := by
  have hll := hl.l
  refine FnOk.run H.i44 H.mixed rfl rfl ?_
  refine fR rfl ?_
  refine rList l (fun i (_ : Unit) => { env := [(0, .t (.lst (l.map Dir.enc))), (1, .t (.str o)), (5, .t (.int .i64 i))], s := ⟨[], 0⟩ }) (fun r i _ => labF o l = labF o r) 0 () rfl rfl rfl rfl rfl ?_ ?_
  · rintro _ hinv
    rw [hinv]
    refine fR rfl ?_
    refine lM rfl rfl rfl ?_
    refine fM rfl ?_
    refine Run.condF rfl rfl (by simp) ?_
    refine fR rfl ?_
    refine Run.fin rfl (EndOk.go ?_); exact .t rfl
  · rintro i x r _ h1 hi hdr hinv ih
    have hx := hl.d x (List.mem_of_getElem? h1)
    have ha := rargument_ok H x hx.l [108, 97, 98, 101, 108]
    refine fR rfl ?_
    refine lM rfl rfl rfl ?_
    refine fM rfl ?_
    refine Run.condT rfl rfl (by simp; omega) ?_
    refine fR rfl ?_
    refine Mid.elemMap rfl rfl rfl h1 rfl rfl ?_
    refine fM rfl ?_
    refine Run.cond rfl rfl (fun hc => ?_) (fun hc => ?_)
    · have hn : x.name = [100, 101, 102, 101, 114] := by simpa using hc
      have el : labF o (x :: r) = if (labV x).kind = 3 ∧ (labV x).text ≠ [] then (labV x).text else o := by simp only [labF, hn, if_true]
      rw [hinv, el]
      have ev : (argF [108, 97, 98, 101, 108] x.args).getD Val.zero = labV x := rfl
      rw [ev] at ha
      generalize labV x = v at *
      generalize (argF [108, 97, 98, 101, 108] x.args).isSome = sm at *
      refine fR rfl ?_
      refine Mid.elemMap rfl rfl rfl h1 rfl rfl ?_
      refine fM rfl ?_
      refine Mid.call (ha) rfl rfl rfl rfl ?_
      refine fM rfl ?_
      by_cases e : v.kind = 3 ∧ v.text ≠ []
      · rw [if_pos e]
        refine Run.condT rfl rfl (by simp [e]) ?_
        refine fR rfl ?_
        refine Run.fin rfl (EndOk.go ?_); exact .t rfl
      · rw [if_neg e]
        refine Run.condF rfl rfl (by simp at e ⊢; intro h; exact e h) ?_
        refine fR rfl ?_
        refine Run.fin rfl (EndOk.go ?_); exact .t rfl
    · have hn : ¬ x.name = [100, 101, 102, 101, 114] := by simpa using hc
      refine fR rfl ?_
      refine aL rfl rfl rfl rfl rfl ?_
      refine fM rfl ?_
      exact rWeak 0 rfl (ih () (by rw [hinv]; simp only [labF, if_neg hn])) rfl rfl rfl
end Go.GB.C18


/-
  H18C: chapter 18: collected groups as data; a field is added to its group.
-/
namespace Go.GB.C18
open Go.GB Go.GB.C11
set_option linter.unusedSimpArgs false
set_option linter.unusedVariables false
set_option maxRecDepth 100000
set_option maxHeartbeats 4000000
variable {P : Program}
structure Ent where
  sel : Sel
  lab : Str
def Ent.enc (e : Ent) : List T := [.int .i64 e.sel.kind, .str e.sel.ali, .str e.sel.name, .str e.sel.on, .lst (e.sel.args.map Arg.enc), .lst (e.sel.dirs.map Dir.enc), .lst (e.sel.sels.map Sel.enc), .str e.lab]
def Ent.v (e : Ent) : V := .agg [.t (.int .i64 e.sel.kind), .t (.str e.sel.ali), .t (.str e.sel.name), .t (.str e.sel.on), .t (.lst (e.sel.args.map Arg.enc)), .t (.lst (e.sel.dirs.map Dir.enc)), .t (.lst (e.sel.sels.map Sel.enc)), .t (.str e.lab)]
structure Grp where
  key : Str
  list : List Ent
structure CSt where
  out : List Grp
  done : List (Str × Str)
def keyF (s : Sel) : Str := if s.ali = [] then s.name else s.ali
def addF (e : Ent) : List Grp → List Grp
  | [] => [⟨keyF e.sel, [e]⟩]
  | g :: r => if g.key = keyF e.sel then ⟨g.key, g.list ++ [e]⟩ :: r else g :: addF e r
/-- where a key's group stands -/
def gidx (k : Str) : List Grp → Option Nat
  | [] => none
  | g :: r => if g.key = k then some 0 else (gidx k r).map (· + 1)
theorem gidx_lt {k : Str} : ∀ {l : List Grp} {j : Nat}, gidx k l = some j → ∃ g, l[j]? = some g ∧ g.key = k
  | [], j, h => by simp [gidx] at h
  | x :: r, j, h => by
    simp only [gidx] at h
    split at h
    · rename_i e; simp at h; subst h; exact ⟨x, rfl, e⟩
    · cases hr : gidx k r with
      | none => rw [hr] at h; simp at h
      | some i => rw [hr] at h; simp at h; subst h; obtain ⟨g, h1, h2⟩ := gidx_lt hr; exact ⟨g, by simpa using h1, h2⟩
theorem addF_none (e : Ent) : ∀ {l : List Grp}, gidx (keyF e.sel) l = none → addF e l = l ++ [⟨keyF e.sel, [e]⟩]
  | [], _ => rfl
  | x :: r, h => by
    simp only [gidx] at h
    split at h
    · cases h
    · rename_i hn
      cases hr : gidx (keyF e.sel) r with
      | none => simp only [addF, if_neg hn, addF_none e hr]; rfl
      | some i => rw [hr] at h; simp at h
theorem addF_some (e : Ent) : ∀ {l : List Grp} {j : Nat} {g : Grp}, gidx (keyF e.sel) l = some j → l[j]? = some g → addF e l = l.set j ⟨g.key, g.list ++ [e]⟩
  | [], j, g, h, _ => by simp [gidx] at h
  | x :: r, j, g, h, hg => by
    simp only [gidx] at h
    split at h
    · rename_i hn; simp at h; subst h; simp at hg; subst hg; simp only [addF, if_pos hn]; rfl
    · rename_i hn
      cases hr : gidx (keyF e.sel) r with
      | none => rw [hr] at h; simp at h
      | some i =>
        rw [hr] at h; simp at h; subst h
        simp only [addF, if_neg hn, addF_some e hr (by simpa using hg)]; rfl
/- the store: the collector, its groups, its marks, the groups' lists -/
def gV (p : Grp × Nat) : List V := [.t (.str p.1.key), .fow 3 p.2 8 (p.1.list.map Ent.enc)]
def gL (l : List Grp) : List Nat := l.map fun g => g.list.length
def markE (m : Str × Str) : List T := [.str m.1, .str m.2]
structure CCtx where
  ds : List Def
  q : Query
  on : Str
  vars : Val
def CO (c : CCtx) (n : Nat) : AObj := .cells [.t (.lst (c.ds.map Def.enc)), .t (.lst (c.q.ops.map Op.enc)), .t (.lst (c.q.frags.map Frag.enc)), .t (.str c.on), .t (.int .i64 c.vars.kind), .t (.int .i64 c.vars.int), .t (.str c.vars.text), .t (.lst (c.vars.items.map Val.enc)), .t (.lst (c.vars.keys.map sE)), .gsl 1 n 0 n 2, .mp 2]
def CS (c : CCtx) (s : CSt) : List (Nat × AObj) := [(0, CO c s.out.length), (1, .gro s.out.length (gE gV s.out.zipIdx)), (2, .map true (mE markE T.bool (s.done.map fun m => (m, true))) none), (3, .farr (gL s.out))]
theorem zipI {α : Type} {l : List α} {i : Nat} {x : α} (h : l[i]? = some x) : l.zipIdx[i]? = some (x, i) := by simp [List.getElem?_zipIdx, h]
theorem zip_push {α : Type} (l : List α) (x : α) : (l ++ [x]).zipIdx = l.zipIdx ++ [(x, l.length)] := by simp [List.zipIdx_append]
theorem zip_set {α : Type} (l : List α) (i : Nat) (x : α) : (l.set i x).zipIdx = l.zipIdx.set i (x, i) := by
  apply List.ext_getElem?
  intro j
  by_cases e : i = j
  · subst e
    by_cases h : i < l.length
    · simp [List.getElem?_zipIdx, List.getElem?_set, h]
    · simp [List.getElem?_zipIdx, List.getElem?_set, h]
  · simp [List.getElem?_zipIdx, List.getElem?_set, e]

/- the search among the groups -/
def gV2 (p : Grp × Nat) : List V := [.t (.str p.1.key), .fow 2 p.2 8 (p.1.list.map Ent.enc)]
def S59 (key : Str) (l : List Grp) (n : Nat) (ns : List Nat) : List (Nat × AObj) := [(0, .cells [.t (.str key)]), (1, .gro n (gE gV2 l.zipIdx)), (2, .farr ns)]
theorem S59_bd {key : Str} {l : List Grp} {n : Nat} {ns : List Nat} : stoBd 3 (S59 key l n ns) = true := by
  have h := V.bds_gE (m := 3) (f := gV2) (fun _ => rfl) l.zipIdx
  simp [S59, stoBd, AObj.bd, h, V.bds, V.bd]
theorem fkey_ok (H : Pr18 P) (k : Str) (L : List (List T)) (key : Str) (l : List Grp) (n : Nat) (ns : List Nat) : FnOk P 60 [.agg [.t (.str k), .t (.lst L)], .ptr 0 0] ⟨S59 key l n ns, 3⟩ { v := .t (.bool (k == key)), rd := true } := by
  unfold S59
  refine FnOk.run H.i60 H.mixed rfl rfl ?_
  refine fR rfl ?_
  refine Run.fin rfl (EndOk.sameX rfl rfl rfl S59_bd (.t rfl))
def gidxI (k : Str) (l : List Grp) : Int := match gidx k l with | some j => j | none => -1
theorem gfind_ok (H : Pr18 P) (key : Str) (l : List Grp) (hl : l.length ≤ 4611686018427387904) (ns : List Nat) : FnOk P 59 [.gsl 1 l.length 0 l.length 2, .fn 60 [(0, 0)]] ⟨S59 key l l.length ns, 3⟩ { v := .t (.int .i64 (gidxI key l)), rd := true } := by
  unfold S59
  refine FnOk.run H.i59 H.mixed rfl rfl ?_
  refine fR rfl ?_
  refine pu rfl ?_
  refine fM rfl ?_
  refine rList l (fun i (_ : Unit) => { env := [(0, .gsl 1 l.length 0 l.length 2), (1, .fn 60 [(0, 0)]), (7, .t (.int .i64 l.length)), (8, .t (.int .i64 i))], s := ⟨S59 key l l.length ns, 3⟩ }) (fun r i _ => gidx key l = (gidx key r).map (· + i)) 3 () rfl (by cases gidx key l <;> rfl) rfl rfl rfl ?_ ?_
  · rintro _ hinv
    have e : gidxI key l = -1 := by unfold gidxI; rw [hinv]; rfl
    rw [e]
    refine fR rfl ?_
    refine Run.condF rfl rfl (by simp) ?_
    refine fR rfl ?_
    refine Run.fin rfl (EndOk.sameX rfl rfl rfl S59_bd (.t rfl))
  · rintro i x r _ h1 hi hd hinv ih
    refine fR rfl ?_
    refine Run.condT rfl rfl (by simp; omega) ?_
    refine fR rfl ?_
    refine pu rfl ?_
    refine Mid.ldGA (i) 0 (sz := 2) rfl rfl (by omega) (by omega) (fun _ => rfl) (zipI h1) (by decide) rfl rfl ?_
    skip
    refine Mid.callvS rfl (fkey_ok H x.key (x.list.map Ent.enc) key l l.length ns) rfl rfl S59_bd rfl ?_
    refine fM rfl ?_
    refine Run.cond rfl rfl (fun hc => ?_) (fun hc => ?_)
    · have hk : x.key = key := by simpa using hc
      have e : gidxI key l = i := by unfold gidxI; rw [hinv]; simp [gidx, hk]
      rw [e]
      refine fR rfl ?_
      refine Run.fin rfl (EndOk.sameX rfl rfl rfl S59_bd (.t rfl))
    · have hk : ¬ x.key = key := by simpa using hc
      refine fR rfl ?_
      refine aL rfl rfl rfl rfl rfl ?_
      refine fM rfl ?_
      exact rWeak 3 rfl (ih () (by rw [hinv]; simp only [gidx, if_neg hk]; cases gidx key r with | none => rfl | some j => simp; omega)) rfl rfl rfl
theorem gV_len (p : Grp × Nat) : (gV p).length = 2 := rfl
theorem gV_bds {m : Nat} (h : 3 < m) (p : Grp × Nat) : V.bds m (gV p) = true := by simp [gV, V.bds, V.bd, h]
theorem CS_bd {c : CCtx} {s : CSt} : stoBd 4 (CS c s) = true := by
  have h := V.bds_gE (m := 4) (f := gV) (gV_bds (by decide)) s.out.zipIdx
  simp [CS, CO, stoBd, AObj.bd_mE]
  simp [AObj.bd, h, V.bds, V.bd]
structure EOk (e : Ent) : Prop where
  s : e.sel.Ok
theorem gL_set (l : List Grp) (i : Nat) (g : Grp) : gL (l.set i g) = (gL l).set i g.list.length := by simp [gL, List.map_set]
theorem gL_at {l : List Grp} {i : Nat} {g : Grp} (h : l[i]? = some g) : (gL l)[i]? = some g.list.length := by simp [gL, h]
theorem CS_end {c : CCtx} {s : CSt} {n : Nat} {l : List (Grp × Nat)} {ns : List Nat} {o2 : List Grp} {ex : List (Nat × AObj)} (h1 : n = o2.length) (h2 : l = o2.zipIdx) (h3 : ns = gL o2) :
    LeS 4 4 ((0, CO c n) :: (1, .gro n (gE gV l)) :: (2, .map true (mE markE T.bool (s.done.map fun m => (m, true))) none) :: (3, .farr ns) :: ex) [(0, CO c o2.length), (1, .gro o2.length (gE gV o2.zipIdx)), (2, .map true (mE markE T.bool (s.done.map fun m => (m, true))) none), (3, .farr (gL o2))] := by
  subst h1; subst h2; subst h3
  exact ⟨.inl ⟨by decide, _, rfl, .cells (.same rfl)⟩, .inl ⟨by decide, _, rfl, .gro (.gE rfl (gV_bds (by decide)))⟩, .inl ⟨by decide, _, rfl, .mE rfl (.inr rfl)⟩, .inl ⟨by decide, _, rfl, .farr rfl⟩, trivial⟩
theorem field_tail (H : Pr18 P) (c : CCtx) (s : CSt) (e : Ent) (o1 : List Grp) (i : Nat) (g : Grp) (hi : o1[i]? = some g) (hl : o1.length ≤ 1099511627776) (hg : g.list.length ≤ 549755813888) (hadd : addF e s.out = o1.set i ⟨g.key, g.list ++ [e]⟩) :
    Run P n43 4 (EndOk ⟨CS c s, 4⟩ { v := .tup [], ob := [(0, CO c (addF e s.out).length), (1, .gro (addF e s.out).length (gE gV (addF e s.out).zipIdx)), (3, .farr (gL (addF e s.out)))], rd := true } r43 .ret) (advK 200 [It.c c43_0]) { env := [(0, .ptr 0 0), (3, .ptr 4 0), (5, .t (.int .i64 i))], s := ⟨[(0, CO c o1.length), (1, .gro o1.length (gE gV o1.zipIdx)), (2, .map true (mE markE T.bool (s.done.map fun m => (m, true))) none), (3, .farr (gL o1)), (4, .cells [.t (.int .i64 e.sel.kind), .t (.str e.sel.ali), .t (.str e.sel.name), .t (.str e.sel.on), .t (.lst (e.sel.args.map Arg.enc)), .t (.lst (e.sel.dirs.map Dir.enc)), .t (.lst (e.sel.sels.map Sel.enc)), .t (.str e.lab)])], 5⟩ } := by
  have hil : i < o1.length := (List.getElem?_eq_some_iff.1 hi).1
  rw [hadd]
  refine fR rfl ?_
  refine pu rfl ?_
  refine pu rfl ?_
  refine Mid.ldG (i) 1 (sz := 2) rfl rfl (by omega) (by omega) (fun _ => rfl) (zipI hi) rfl rfl ?_
  refine fM rfl ?_
  refine Mid.appF Ent.enc g.list [e] rfl rfl (gL_at hi) rfl (fun _ => rfl) (by first | omega | (simp; omega) | (simp; done)) (by first | omega | (simp; omega) | (simp; done)) rfl ?_
  refine pu rfl ?_
  refine fM rfl ?_
  refine Mid.stG (((⟨g.key, g.list ++ [e]⟩, i) : Grp × Nat)) (i) 1 (sz := 2) rfl rfl rfl rfl rfl (by omega) (fun _ => rfl) (zipI hi) (by decide) rfl rfl ?_
  refine fM rfl ?_
  refine Run.fin rfl (EndOk.chg rfl rfl (.le (.same rfl)) ?_)
  exact CS_end (by simp) (by rw [zip_set]) (by rw [gL_set]; simp)
theorem field_ok (H : Pr18 P) (c : CCtx) (s : CSt) (e : Ent) (hl : s.out.length ≤ 549755813888) (hg : ∀ g, g ∈ s.out → g.list.length ≤ 549755813888) : FnOk P 43 [.ptr 0 0, e.v] ⟨CS c s, 4⟩ { v := .tup [], ob := [(0, CO c (addF e s.out).length), (1, .gro (addF e s.out).length (gE gV (addF e s.out).zipIdx)), (3, .farr (gL (addF e s.out)))], rd := true } := by
  have tail : ∀ K, K = keyF e.sel → Run P n43 4 (EndOk ⟨CS c s, 4⟩ { v := .tup [], ob := [(0, CO c (addF e s.out).length), (1, .gro (addF e s.out).length (gE gV (addF e s.out).zipIdx)), (3, .farr (gL (addF e s.out)))], rd := true } r43 .ret) (advK 200 [It.c c43_5]) { env := [(0, .ptr 0 0), (3, .ptr 4 0), (4, .ptr 5 0)], s := ⟨[(0, CO c s.out.length), (1, .gro s.out.length (gE gV s.out.zipIdx)), (2, .map true (mE markE T.bool (s.done.map fun m => (m, true))) none), (3, .farr (gL s.out)), (4, .cells [.t (.int .i64 e.sel.kind), .t (.str e.sel.ali), .t (.str e.sel.name), .t (.str e.sel.on), .t (.lst (e.sel.args.map Arg.enc)), .t (.lst (e.sel.dirs.map Dir.enc)), .t (.lst (e.sel.sels.map Sel.enc)), .t (.str e.lab)]), (5, .cells [.t (.str K)])], 6⟩ } := by
    rintro K rfl
    have hf := gfind_ok H (keyF e.sel) s.out (by omega) (gL s.out)
    cases hx : gidx (keyF e.sel) s.out with
    | none =>
      have e1 : gidxI (keyF e.sel) s.out = -1 := by unfold gidxI; rw [hx]
      rw [e1] at hf
      refine fR rfl ?_
      refine Mid.callRd [5, 1, 3] (hf) rfl rfl rfl rfl S59_bd (by repeat' (first | exact trivial | exact rfl | refine And.intro ?_ ?_ | exact (congrArg some (AObj.ren_mE _ _ _ _ _ _)).symm | exact (congrArg some (AObj.ren_cE _ _ _)).symm | (refine (congrArg some (AObj.ren_gE ?_ _ _)).symm; intro _; rfl))) rfl ?_
      refine fM rfl ?_
      refine Run.condT rfl rfl rfl ?_
      refine Run.fast (f := 14) rfl (by (repeat' (first | exact trivial | exact Bool.not_or_self _ | exact grd1 _ | exact grd2 _ | exact grd3 _ _ | exact grd4 _ _ | refine And.intro ?_ ?_ | exact rfl | (simp; done) | (simp <;> omega))); done) ?_
      refine Mid.lenG rfl rfl rfl ?_
      refine Mid.fast (f := 10) rfl (by (repeat' (first | exact trivial | exact Bool.not_or_self _ | exact grd1 _ | exact grd2 _ | exact grd3 _ _ | exact grd4 _ _ | refine And.intro ?_ ?_ | exact rfl | (simp; done) | (simp <;> omega))); done) ?_
      refine Mid.bslO rfl rfl ?_
      refine Mid.appGC (vs := [.t (.str (keyF e.sel)), .nils]) (mm := 1) rfl rfl (by rw [gE_length gV_len]; simp) rfl rfl (by omega) (by omega) rfl ?_
      refine Mid.fast (f := 4) rfl (by (repeat' (first | exact trivial | exact Bool.not_or_self _ | exact grd1 _ | exact grd2 _ | exact grd3 _ _ | exact grd4 _ _ | refine And.intro ?_ ?_ | exact rfl | (simp; done) | (simp <;> omega))); done) ?_
      have hlen : (s.out ++ [(⟨keyF e.sel, []⟩ : Grp)]).length = s.out.length + 1 := by simp
      refine Run.weakZ 5 rfl (st' := { env := [(0, .ptr 0 0), (3, .ptr 4 0), (5, .t (.int .i64 s.out.length))], s := ⟨[(0, CO c (s.out ++ [(⟨keyF e.sel, []⟩ : Grp)]).length), (1, .gro (s.out ++ [(⟨keyF e.sel, []⟩ : Grp)]).length (gE gV (s.out ++ [(⟨keyF e.sel, []⟩ : Grp)]).zipIdx)), (2, .map true (mE markE T.bool (s.done.map fun m => (m, true))) none), (3, .farr (gL (s.out ++ [(⟨keyF e.sel, []⟩ : Grp)]))), (4, .cells [.t (.int .i64 e.sel.kind), .t (.str e.sel.ali), .t (.str e.sel.name), .t (.str e.sel.on), .t (.lst (e.sel.args.map Arg.enc)), .t (.lst (e.sel.dirs.map Dir.enc)), .t (.lst (e.sel.sels.map Sel.enc)), .t (.str e.lab)])], 5⟩ }) ?_ rfl rfl rfl ?_ ?_
      · exact Run.adv 200 rfl (field_tail H c s e _ s.out.length ⟨keyF e.sel, []⟩ (by simp) (by omega) (by simp) (by rw [addF_none e hx]; simp))
      · exact ⟨.le (Nat.le_of_ble_eq_true rfl) (.same rfl), .le (Nat.le_of_ble_eq_true rfl) (.same rfl), .le (Nat.le_of_ble_eq_true rfl) .t, trivial⟩
      · rw [hlen, zip_push]
        refine ⟨.inl ⟨Nat.le_of_ble_eq_true rfl, _, rfl, .le (.cells (.same rfl))⟩, .inl ⟨Nat.le_of_ble_eq_true rfl, _, rfl, LeOZ.groPush (Nat.le_of_ble_eq_true rfl) rfl (gV_bds (by decide)) (.cons (.le (Nat.le_of_ble_eq_true rfl) .t) (.cons (LeZ.nilFow (Nat.le_of_ble_eq_true rfl) (Nat.le_of_ble_eq_true rfl)) .nil))⟩, .inl ⟨Nat.le_of_ble_eq_true rfl, _, rfl, .le (.mE rfl (.inr rfl))⟩, .inl ⟨Nat.le_of_ble_eq_true rfl, _, rfl, .farr fun i => ?_⟩, .inl ⟨Nat.le_of_ble_eq_true rfl, _, rfl, .le (.cells (.same rfl))⟩, trivial⟩
        have : gL (s.out ++ [(⟨keyF e.sel, []⟩ : Grp)]) = gL s.out ++ [0] := by simp [gL]
        rw [this]; exact farr_zero i
    | some j =>
      have e1 : gidxI (keyF e.sel) s.out = j := by unfold gidxI; rw [hx]
      rw [e1] at hf
      obtain ⟨g, h1, h2⟩ := gidx_lt hx
      refine fR rfl ?_
      refine Mid.callRd [5, 1, 3] (hf) rfl rfl rfl rfl S59_bd (by repeat' (first | exact trivial | exact rfl | refine And.intro ?_ ?_ | exact (congrArg some (AObj.ren_mE _ _ _ _ _ _)).symm | exact (congrArg some (AObj.ren_cE _ _ _)).symm | (refine (congrArg some (AObj.ren_gE ?_ _ _)).symm; intro _; rfl))) rfl ?_
      refine fM rfl ?_
      refine Run.condF rfl rfl (by simp) ?_
      refine rWeakC 5 rfl (st' := { env := [(0, .ptr 0 0), (3, .ptr 4 0), (5, .t (.int .i64 j))], s := ⟨[(0, CO c s.out.length), (1, .gro s.out.length (gE gV s.out.zipIdx)), (2, .map true (mE markE T.bool (s.done.map fun m => (m, true))) none), (3, .farr (gL s.out)), (4, .cells [.t (.int .i64 e.sel.kind), .t (.str e.sel.ali), .t (.str e.sel.name), .t (.str e.sel.on), .t (.lst (e.sel.args.map Arg.enc)), .t (.lst (e.sel.dirs.map Dir.enc)), .t (.lst (e.sel.sels.map Sel.enc)), .t (.str e.lab)])], 5⟩ }) ?_ rfl rfl rfl
      exact Run.adv 200 rfl (field_tail H c s e s.out j g h1 (by omega) (hg g (List.mem_of_getElem? h1)) (addF_some e hx h1))
  refine FnOk.run H.i43 H.mixed rfl rfl ?_
  refine fR rfl ?_
  by_cases ha : e.sel.ali = []
  · have hk : e.sel.name = keyF e.sel := by unfold keyF; rw [if_pos ha]
    refine Run.condT rfl rfl (by simp [ha]) ?_
    refine Run.fast (f := 6) rfl trivial ?_
    exact Run.adv 200 rfl (tail _ hk)
  · have hk : e.sel.ali = keyF e.sel := by unfold keyF; rw [if_neg ha]
    refine Run.condF rfl rfl (by simp [ha]) ?_
    refine rWeakC 6 rfl (st' := { env := [(0, .ptr 0 0), (3, .ptr 4 0), (4, .ptr 5 0)], s := ⟨[(0, CO c s.out.length), (1, .gro s.out.length (gE gV s.out.zipIdx)), (2, .map true (mE markE T.bool (s.done.map fun m => (m, true))) none), (3, .farr (gL s.out)), (4, .cells [.t (.int .i64 e.sel.kind), .t (.str e.sel.ali), .t (.str e.sel.name), .t (.str e.sel.on), .t (.lst (e.sel.args.map Arg.enc)), .t (.lst (e.sel.dirs.map Dir.enc)), .t (.lst (e.sel.sels.map Sel.enc)), .t (.str e.lab)]), (5, .cells [.t (.str e.sel.ali)])], 6⟩ }) ?_ rfl rfl rfl
    exact Run.adv 200 rfl (tail _ hk)
end Go.GB.C18


/-
  H18D: chapter 18: the reference adds a field to its group, and notes what it has processed.
-/
namespace Go.GB.C18
open Go.GB Go.GB.C11
set_option linter.unusedSimpArgs false
set_option linter.unusedVariables false
set_option maxRecDepth 100000
set_option maxHeartbeats 4000000
variable {P : Program}
theorem rkey_ok (H : Pr18 P) (s : Sel) : FnOk P 63 [s.v] ⟨[], 0⟩ { v := .t (.str (keyF s)) } := by
  unfold keyF
  refine FnOk.run H.i63 H.mixed rfl rfl ?_
  refine fR rfl ?_
  by_cases ha : s.ali = []
  · rw [if_pos ha]
    refine Run.condF rfl rfl (by simp [ha]) ?_
    refine fR rfl ?_
    refine Run.fin rfl (EndOk.go ?_); exact .t rfl
  · rw [if_neg ha]
    refine Run.condT rfl rfl (by simp [ha]) ?_
    refine fR rfl ?_
    refine Run.fin rfl (EndOk.go ?_); exact .t rfl
def RO (c : CCtx) (done : List (Str × Str)) (n : Nat) : AObj := .cells [.t (.lst (c.ds.map Def.enc)), .t (.lst (c.q.ops.map Op.enc)), .t (.lst (c.q.frags.map Frag.enc)), .t (.str c.on), .t (.int .i64 c.vars.kind), .t (.int .i64 c.vars.int), .t (.str c.vars.text), .t (.lst (c.vars.items.map Val.enc)), .t (.lst (c.vars.keys.map sE)), .own 2 2 (done.map markE), .gsl 1 n 0 n 2]
def RS (c : CCtx) (s : CSt) : List (Nat × AObj) := [(0, RO c s.done s.out.length), (1, .gro s.out.length (gE gV s.out.zipIdx)), (2, .arr s.done.length), (3, .farr (gL s.out))]
theorem RS_bd {c : CCtx} {s : CSt} : stoBd 4 (RS c s) = true := by
  have h := V.bds_gE (m := 4) (f := gV) (gV_bds (by decide)) s.out.zipIdx
  simp [RS, RO, stoBd]
  simp [AObj.bd, h, V.bds, V.bd]
theorem RS_end {c : CCtx} {d1 d2 : List (Str × Str)} {n k : Nat} {l : List (Grp × Nat)} {ns : List Nat} {o2 : List Grp} {ex : List (Nat × AObj)} (h1 : n = o2.length) (h2 : l = o2.zipIdx) (h3 : ns = gL o2) (h4 : d1 = d2) (h5 : k = d2.length) :
    LeS 4 4 ((0, RO c d1 n) :: (1, .gro n (gE gV l)) :: (2, .arr k) :: (3, .farr ns) :: ex) [(0, RO c d2 o2.length), (1, .gro o2.length (gE gV o2.zipIdx)), (2, .arr d2.length), (3, .farr (gL o2))] := by
  subst h1; subst h2; subst h3; subst h4; subst h5
  exact ⟨.inl ⟨by decide, _, rfl, .cells (.same rfl)⟩, .inl ⟨by decide, _, rfl, .gro (.gE rfl (gV_bds (by decide)))⟩, .inl ⟨by decide, _, rfl, .arr rfl⟩, .inl ⟨by decide, _, rfl, .farr rfl⟩, trivial⟩
theorem RS_end3 {c : CCtx} {d : List (Str × Str)} {n k : Nat} {cs : List V} {ns : List Nat} {ex : List (Nat × AObj)} (hb : V.bds 4 cs = true) :
    LeS 4 4 ((0, RO c d n) :: (1, .gro n cs) :: (2, .arr k) :: (3, .farr ns) :: ex) [(0, RO c d n), (1, .gro n cs), (2, .arr k), (3, .farr ns)] :=
  ⟨.inl ⟨by decide, _, rfl, .cells (.same rfl)⟩, .inl ⟨by decide, _, rfl, .gro (.same hb)⟩, .inl ⟨by decide, _, rfl, .arr rfl⟩, .inl ⟨by decide, _, rfl, .farr rfl⟩, trivial⟩
theorem radd_ok (H : Pr18 P) (c : CCtx) (s : CSt) (e : Ent) (hl : s.out.length ≤ 549755813888) (hg : ∀ g, g ∈ s.out → g.list.length ≤ 549755813888) : FnOk P 49 [.ptr 0 0, e.v] ⟨RS c s, 4⟩ { v := .tup [], ob := [(0, RO c s.done (addF e s.out).length), (1, .gro (addF e s.out).length (gE gV (addF e s.out).zipIdx)), (3, .farr (gL (addF e s.out)))], rd := true } := by
  refine FnOk.run H.i49 H.mixed rfl rfl ?_
  refine fR rfl ?_
  refine Mid.call (rkey_ok H e.sel) rfl rfl rfl rfl ?_
  refine fM rfl ?_
  refine rList s.out (fun i (_ : Unit) => { env := [(0, .ptr 0 0), (3, .ptr 4 0), (4, .t (.str (keyF e.sel))), (5, .t (.int .i64 i))], s := ⟨[(0, RO c s.done s.out.length), (1, .gro s.out.length (gE gV s.out.zipIdx)), (2, .arr s.done.length), (3, .farr (gL s.out)), (4, .cells [.t (.int .i64 e.sel.kind), .t (.str e.sel.ali), .t (.str e.sel.name), .t (.str e.sel.on), .t (.lst (e.sel.args.map Arg.enc)), .t (.lst (e.sel.dirs.map Dir.enc)), .t (.lst (e.sel.sels.map Sel.enc)), .t (.str e.lab)])], 5⟩ }) (fun r i _ => gidx (keyF e.sel) s.out = (gidx (keyF e.sel) r).map (· + i)) 5 () rfl (by cases gidx (keyF e.sel) s.out <;> rfl) rfl rfl rfl ?_ ?_
  · rintro _ hinv
    have hx : gidx (keyF e.sel) s.out = none := by rw [hinv]; rfl
    refine fR rfl ?_
    refine pu rfl ?_
    refine fM rfl ?_
    refine Run.condF rfl rfl (by simp) ?_
    refine Run.fast (f := 8) rfl (by (repeat' (first | exact trivial | exact Bool.not_or_self _ | exact grd1 _ | exact grd2 _ | exact grd3 _ _ | exact grd4 _ _ | refine And.intro ?_ ?_ | exact rfl | (simp; done) | (simp <;> omega))); done) ?_
    refine Mid.bslF (q := 3) (xs := [e].map Ent.enc) rfl rfl (Nat.le_of_ble_eq_true rfl) rfl ?_
    refine Mid.fast (f := 1) rfl (by (repeat' (first | exact trivial | exact Bool.not_or_self _ | exact grd1 _ | exact grd2 _ | exact grd3 _ _ | exact grd4 _ _ | refine And.intro ?_ ?_ | exact rfl | (simp; done) | (simp <;> omega))); done) ?_
    refine Mid.bslO rfl rfl ?_
    refine Mid.appGC (vs := [.t (.str (keyF e.sel)), .fow 3 (gL s.out).length 8 ([e].map Ent.enc)]) (mm := 1) rfl rfl (by rw [gE_length gV_len]; simp) rfl rfl (by omega) (by omega) rfl ?_
    refine fM rfl ?_
    have hgl : (gL s.out).length = s.out.length := by simp [gL]
    have hlen : (s.out ++ [(⟨keyF e.sel, [e]⟩ : Grp)]).length = s.out.length + 1 := by simp
    refine Run.fin rfl (EndOk.chg rfl rfl (.le (.same rfl)) ?_)
    rw [addF_none e hx]
    have hz : gE gV (s.out ++ [(⟨keyF e.sel, [e]⟩ : Grp)]).zipIdx = gE gV s.out.zipIdx ++ [.t (.str (keyF e.sel)), .fow 3 (gL s.out).length 8 ([e].map Ent.enc)] := by rw [zip_push, gE_append, hgl]; rfl
    have hq : gL (s.out ++ [(⟨keyF e.sel, [e]⟩ : Grp)]) = gL s.out ++ [([e].map Ent.enc).length] := by simp [gL]
    rw [hz, hq, hlen]
    exact RS_end3 (by rw [V.bds_app, V.bds_gE (gV_bds (by decide))]; rfl)
  · rintro i x r _ h1 hi hd hinv ih
    have hxg := hg x (List.mem_of_getElem? h1)
    refine fR rfl ?_
    refine pu rfl ?_
    refine fM rfl ?_
    refine Run.condT rfl rfl (by simp; omega) ?_
    refine fR rfl ?_
    refine pu rfl ?_
    refine pu rfl ?_
    refine Mid.ldG (i) 0 (sz := 2) rfl rfl (by omega) (by omega) (fun _ => rfl) (zipI h1) rfl rfl ?_
    refine fM rfl ?_
    refine Run.cond rfl rfl (fun hc => ?_) (fun hc => ?_)
    · have hk : x.key = keyF e.sel := by simpa using hc
      have hx : gidx (keyF e.sel) s.out = some i := by rw [hinv]; simp [gidx, hk]
      have hadd := addF_some e hx h1
      rw [hadd]
      refine fR rfl ?_
      refine pu rfl ?_
      refine pu rfl ?_
      refine Mid.ldG (i) 1 (sz := 2) rfl rfl (by omega) (by omega) (fun _ => rfl) (zipI h1) rfl rfl ?_
      refine fM rfl ?_
      refine Mid.appF Ent.enc x.list [e] rfl rfl (gL_at h1) rfl (fun _ => rfl) (by first | omega | (simp; omega) | (simp; done)) (by first | omega | (simp; omega) | (simp; done)) rfl ?_
      refine pu rfl ?_
      refine fM rfl ?_
      refine Mid.stG (((⟨x.key, x.list ++ [e]⟩, i) : Grp × Nat)) (i) 1 (sz := 2) rfl rfl rfl rfl rfl (by omega) (fun _ => rfl) (zipI h1) (by decide) rfl rfl ?_
      refine fM rfl ?_
      refine Run.fin rfl (EndOk.chg rfl rfl (.le (.same rfl)) ?_)
      exact RS_end (by simp) (by rw [zip_set]) (by rw [gL_set]; simp) rfl rfl
    · have hk : ¬ x.key = keyF e.sel := by simpa using hc
      refine fR rfl ?_
      refine aL rfl rfl rfl rfl rfl ?_
      refine fM rfl ?_
      exact rWeak 5 rfl (ih () (by rw [hinv]; simp only [gidx, if_neg hk]; cases gidx (keyF e.sel) r with | none => rfl | some j => simp; omega)) rfl rfl rfl
instance : DecidableEq (Str × Str) := inferInstance
def noteF (m : Str × Str) (d : List (Str × Str)) : List (Str × Str) := if m ∈ d then d else d ++ [m]
theorem rfresh_ok (H : Pr18 P) (c : CCtx) (s : CSt) (m : Str × Str) (hl : s.done.length ≤ 1099511627776) : FnOk P 48 [.ptr 0 0, .agg [.t (.str m.1), .t (.str m.2)]] ⟨RS c s, 4⟩ { v := .t (.bool (!decide (m ∈ s.done))), ob := [(0, RO c (noteF m s.done) s.out.length), (2, .arr (noteF m s.done).length)], rd := true } := by
  refine FnOk.run H.i48 H.mixed rfl rfl ?_
  refine fR rfl ?_
  refine rList s.done (fun i (_ : Unit) => { env := [(0, .ptr 0 0), (3, .ptr 4 0), (5, .t (.int .i64 i))], s := ⟨[(0, RO c s.done s.out.length), (1, .gro s.out.length (gE gV s.out.zipIdx)), (2, .arr s.done.length), (3, .farr (gL s.out)), (4, .cells [.t (.str m.1), .t (.str m.2)])], 5⟩ }) (fun r i _ => (m ∈ s.done ↔ m ∈ r)) 5 () rfl Iff.rfl rfl rfl rfl ?_ ?_
  · rintro _ hinv
    have hn : ¬ m ∈ s.done := by rw [hinv]; simp
    have e1 : noteF m s.done = s.done ++ [m] := by unfold noteF; rw [if_neg hn]
    rw [e1, decide_eq_false hn]
    refine fR rfl ?_
    refine lM rfl rfl rfl ?_
    refine fM rfl ?_
    refine Run.condF rfl rfl (by simp) ?_
    refine fR rfl ?_
    refine apM markE s.done [m] rfl rfl rfl rfl rfl ?_ (h1 := by first | omega | (simp; omega) | (simp; done)) (h2 := by first | omega | (simp; omega) | (simp; done))
    refine fM rfl ?_
    refine Run.fin rfl (EndOk.chg rfl rfl (.le .t) ?_)
    exact RS_end rfl rfl rfl rfl rfl
  · rintro i x r _ h1 hi hd hinv ih
    refine fR rfl ?_
    refine lM rfl rfl rfl ?_
    refine fM rfl ?_
    refine Run.condT rfl rfl (by simp; omega) ?_
    refine fR rfl ?_
    refine Mid.elemMap rfl rfl rfl h1 rfl rfl ?_
    refine fM rfl ?_
    refine p0 rfl ?_
    refine fM rfl ?_
    refine Run.cond rfl rfl (fun hc => ?_) (fun hc => ?_)
    · have hk : x = m := by
        simp [keyEq, T.eqb] at hc
        exact Prod.ext hc.1 hc.2
      have hm : m ∈ s.done := by rw [hinv, hk]; simp
      have e1 : noteF m s.done = s.done := by unfold noteF; rw [if_pos hm]
      rw [e1, decide_eq_true hm]
      refine fR rfl ?_
      refine Run.fin rfl (EndOk.chg rfl rfl (.le .t) ?_)
      exact RS_end rfl rfl rfl rfl rfl
    · have hk : ¬ x = m := by
        rintro rfl
        simp [keyEq, T.eqb] at hc
      refine fR rfl ?_
      refine aL rfl rfl rfl rfl rfl ?_
      refine fM rfl ?_
      exact rWeak 5 rfl (ih () (by rw [hinv]; simp [Ne.symm hk])) rfl rfl rfl
end Go.GB.C18


/-
  H18P: chapter 18: what entries collect, how much of it, and that fuel is enough.
-/
namespace Go.GB.C18
open Go.GB Go.GB.C11
set_option linter.unusedSimpArgs false
set_option linter.unusedVariables false
set_option maxRecDepth 100000
set_option maxHeartbeats 4000000
def entF (c : CCtx) : Nat → Ent → CSt → CSt
  | 0, _, s => s
  | n + 1, e, s =>
    if incF c.vars e.sel.dirs = false then s
    else if e.sel.kind = 3 then
      if e.sel.on = [] ∨ isF c.ds c.on e.sel.on = true then e.sel.sels.foldl (fun s x => entF c n ⟨x, labF e.lab e.sel.dirs⟩ s) s else s
    else if e.sel.kind = 2 then
      match findFrag e.sel.name c.q.frags with
      | none => s
      | some f =>
        if isF c.ds c.on f.on = true ∧ ¬ (e.sel.name, labF e.lab e.sel.dirs) ∈ s.done then
          f.sels.foldl (fun s x => entF c n ⟨x, labF e.lab e.sel.dirs⟩ s) ⟨s.out, s.done ++ [(e.sel.name, labF e.lab e.sel.dirs)]⟩
        else s
    else ⟨addF e s.out, s.done⟩
def selsF (c : CCtx) (n : Nat) (lab : Str) (l : List Sel) (s : CSt) : CSt := l.foldl (fun s x => entF c n ⟨x, lab⟩ s) s

mutual
def selN : Sel → Nat
  | .mk _ _ _ _ _ _ ss => 1 + selsN ss
def selsN : List Sel → Nat
  | [] => 0
  | x :: r => selN x + selsN r
end
theorem selN_eq (s : Sel) : selN s = 1 + selsN s.sels := by cases s; rfl
inductive SelL (Lb : Str → Prop) : Sel → Prop where
  | mk {k : Int} {a n o : Str} {ar : List Arg} {ds : List Dir} {ss : List Sel} (h1 : ∀ o, Lb o → Lb (labF o ds)) (h2 : ∀ x, x ∈ ss → SelL Lb x) : SelL Lb (.mk k a n o ar ds ss)
theorem SelL.l {Lb : Str → Prop} {s : Sel} (h : SelL Lb s) : ∀ o, Lb o → Lb (labF o s.dirs) := by cases h with | mk h1 h2 => exact h1
theorem SelL.s {Lb : Str → Prop} {s : Sel} (h : SelL Lb s) : ∀ x, x ∈ s.sels → SelL Lb x := by cases h with | mk h1 h2 => exact h2

def phi (q : Query) (d : List (Str × Str)) : List (Str × Str × Nat) → Nat
  | [] => 0
  | m :: r => (if (m.1, m.2.1) ∈ d then 0 else m.2.2) + phi q d r
theorem phi_le (q : Query) (d : List (Str × Str)) (m : Str × Str) : ∀ U, phi q (d ++ [m]) U ≤ phi q d U
  | [] => Nat.le_refl _
  | u :: r => by
    have := phi_le q d m r
    simp only [phi]
    by_cases h : (u.1, u.2.1) ∈ d
    · simp [h]; omega
    · by_cases h2 : (u.1, u.2.1) = m
      · simp [h, h2]; omega
      · simp [h, h2]; omega
theorem phi_note {q : Query} {d : List (Str × Str)} {m : Str × Str} {w : Nat} (hn : ¬ m ∈ d) : ∀ {U : List (Str × Str × Nat)}, (m.1, m.2, w) ∈ U → phi q (d ++ [m]) U + w ≤ phi q d U
  | [], h => by simp at h
  | u :: r, h => by
    simp only [phi]
    by_cases e : u = (m.1, m.2, w)
    · subst e
      have := phi_le q d m r
      simp [hn]; omega
    · have hr : (m.1, m.2, w) ∈ r := by
        rcases List.mem_cons.1 h with h | h
        · exact absurd h.symm e
        · exact h
      have := phi_note (q := q) hn hr
      by_cases h1 : (u.1, u.2.1) ∈ d
      · simp [h1]; omega
      · by_cases h2 : (u.1, u.2.1) = m
        · simp [h1, h2]; omega
        · simp [h1, h2]; omega

def cnt : List Grp → Nat
  | [] => 0
  | g :: r => g.list.length + cnt r
theorem cnt_add (e : Ent) : ∀ l : List Grp, cnt (addF e l) = cnt l + 1
  | [] => rfl
  | g :: r => by
    simp only [addF]
    split
    · simp [cnt]; omega
    · have := cnt_add e r; simp [cnt]; omega
theorem cnt_mem {g : Grp} : ∀ {l : List Grp}, g ∈ l → g.list.length ≤ cnt l
  | [], h => by simp at h
  | x :: r, h => by
    rcases List.mem_cons.1 h with rfl | h
    · simp [cnt]
    · have := cnt_mem h; simp [cnt]; omega
def Full (l : List Grp) : Prop := ∀ g, g ∈ l → g.list ≠ []
theorem Full.len : ∀ {l : List Grp}, Full l → l.length ≤ cnt l
  | [], _ => Nat.le_refl _
  | g :: r, h => by
    have h1 : g.list ≠ [] := h g (by simp)
    have := Full.len (l := r) (fun x hx => h x (by simp [hx]))
    have : 0 < g.list.length := List.length_pos_iff.2 h1
    simp [cnt]; omega
theorem Full.add (e : Ent) : ∀ {l : List Grp}, Full l → Full (addF e l)
  | [], _ => by intro g hg; simp [addF] at hg; subst hg; simp
  | x :: r, h => by
    intro g hg
    simp only [addF] at hg
    split at hg
    · rcases List.mem_cons.1 hg with rfl | hg
      · simp
      · exact h g (by simp [hg])
    · rcases List.mem_cons.1 hg with rfl | hg
      · exact h _ (by simp)
      · exact Full.add e (l := r) (fun y hy => h y (by simp [hy])) g hg

/-- what is asked of schema, document and labels -/
structure COk (c : CCtx) (Lb : Str → Prop) (U : List (Str × Str × Nat)) : Prop where
  ds : DocOk c.ds
  q : c.q.Ok
  vars : c.vars.Ok
  frag : ∀ f, f ∈ c.q.frags → ∀ x, x ∈ f.sels → SelL Lb x
  mark : ∀ (n : Str) (f : Frag) (l : Str), findFrag n c.q.frags = some f → Lb l → (n, l, selsN f.sels + 1) ∈ U
structure EntOk (Lb : Str → Prop) (e : Ent) : Prop where
  s : e.sel.Ok
  l : SelL Lb e.sel
  o : Lb e.lab
/-- what a step keeps -/
structure Post (c : CCtx) (U : List (Str × Str × Nat)) (s s' : CSt) (k : Nat) : Prop where
  n : cnt s'.out + phi c.q s'.done U ≤ cnt s.out + phi c.q s.done U + k
  p : phi c.q s'.done U ≤ phi c.q s.done U
  f : Full s'.out
  d : s'.done.length + phi c.q s'.done U ≤ s.done.length + phi c.q s.done U
theorem Post.refl {c : CCtx} {U : List (Str × Str × Nat)} {s : CSt} {k : Nat} (h : Full s.out) : Post c U s s k := ⟨by omega, Nat.le_refl _, h, Nat.le_refl _⟩
theorem Post.trans {c : CCtx} {U : List (Str × Str × Nat)} {s s' s'' : CSt} {k j : Nat} (h : Post c U s s' k) (g : Post c U s' s'' j) : Post c U s s'' (k + j) :=
  ⟨by have := h.n; have := g.n; omega, Nat.le_trans g.p h.p, g.f, Nat.le_trans g.d h.d⟩

theorem ent_sub {Lb : Str → Prop} {e : Ent} (h : EntOk Lb e) : ∀ x, x ∈ e.sel.sels → EntOk Lb ⟨x, labF e.lab e.sel.dirs⟩ :=
  fun x hx => ⟨h.s.s x hx, h.l.s x hx, h.l.l _ h.o⟩
theorem ent_frag {c : CCtx} {Lb : Str → Prop} {U : List (Str × Str × Nat)} (hc : COk c Lb U) {e : Ent} (h : EntOk Lb e) {f : Frag} (hf : findFrag e.sel.name c.q.frags = some f) : ∀ x, x ∈ f.sels → EntOk Lb ⟨x, labF e.lab e.sel.dirs⟩ :=
  fun x hx => ⟨(hc.q.f f (findFrag_mem hf)).s.2 x hx, hc.frag f (findFrag_mem hf) x hx, h.l.l _ h.o⟩
theorem fold_post {c : CCtx} {Lb : Str → Prop} {U : List (Str × Str × Nat)} {n : Nat} {lab : Str} (ih : ∀ e s, EntOk Lb e → Full s.out → Post c U s (entF c n e s) (selN e.sel)) : ∀ (l : List Sel) (s : CSt), (∀ x, x ∈ l → EntOk Lb ⟨x, lab⟩) → Full s.out → Post c U s (selsF c n lab l s) (selsN l)
  | [], s, _, hf => .refl hf
  | x :: r, s, hl, hf => by
    have h1 := ih ⟨x, lab⟩ s (hl x (by simp)) hf
    have h2 := fold_post (lab := lab) ih r (entF c n ⟨x, lab⟩ s) (fun y hy => hl y (by simp [hy])) h1.f
    have := h1.trans h2
    simp only [selsN]; exact this
theorem ent_post {c : CCtx} {Lb : Str → Prop} {U : List (Str × Str × Nat)} (hc : COk c Lb U) : ∀ (n : Nat) (e : Ent) (s : CSt), EntOk Lb e → Full s.out → Post c U s (entF c n e s) (selN e.sel)
  | 0, e, s, he, hf => .refl hf
  | n + 1, e, s, he, hf => by
    have ih := ent_post hc n
    rw [selN_eq]
    simp only [entF]
    split
    · exact .refl hf
    · split
      · split
        · have := fold_post (lab := labF e.lab e.sel.dirs) ih e.sel.sels s (ent_sub he) hf
          unfold selsF at this
          exact ⟨by have := this.n; omega, this.p, this.f, this.d⟩
        · exact .refl hf
      · split
        · split
          · exact .refl hf
          · rename_i f hfr
            split
            · rename_i hm
              have hU := hc.mark _ f (labF e.lab e.sel.dirs) hfr (he.l.l _ he.o)
              have h1 := phi_note (q := c.q) hm.2 hU
              have := fold_post (lab := labF e.lab e.sel.dirs) ih f.sels ⟨s.out, s.done ++ [(e.sel.name, labF e.lab e.sel.dirs)]⟩ (ent_frag hc he hfr) hf
              unfold selsF at this
              exact ⟨by have := this.n; simp only at this; omega, by have := this.p; simp only at this; omega, this.f, by have := this.d; simp only [List.length_append, List.length_singleton] at this; omega⟩
            · exact .refl hf
        · refine ⟨?_, Nat.le_refl _, hf.add e, Nat.le_refl _⟩
          simp only [cnt_add]; omega
end Go.GB.C18


/-
  H18E: chapter 18: the program's collector computes what entries collect.
-/
namespace Go.GB.C18
open Go.GB Go.GB.C11
set_option linter.unusedSimpArgs false
set_option linter.unusedVariables false
set_option maxRecDepth 100000
set_option maxHeartbeats 8000000
variable {P : Program}
theorem markE_ok : KeyEnc [.str, .str] markE := ⟨fun _ => rfl, fun x y h => by simp [markE, keyEq, T.eqb] at h; exact Prod.ext h.1 h.2, fun x => by simp [markE, keyEq, T.eqb]⟩
theorem kget_done (m : Str × Str) : ∀ (d : List (Str × Str)), (kget m (d.map fun m => (m, true))).getD false = decide (m ∈ d)
  | [] => by simp [kget]
  | x :: r => by
    have := kget_done m r
    simp only [List.map_cons, kget]
    by_cases h : m = x
    · simp [h]
    · simp [h, this]
theorem kset_done {m : Str × Str} : ∀ {d : List (Str × Str)}, ¬ m ∈ d → kset m true (d.map fun m => (m, true)) = (d ++ [m]).map fun m => (m, true)
  | [], _ => rfl
  | x :: r, h => by
    have h1 : ¬ m = x := fun e => h (by simp [e])
    have h2 := kset_done (m := m) (d := r) (fun e => h (by simp [e]))
    simp only [List.map_cons, kset, if_neg h1, h2, List.cons_append]
theorem CS_ren {c : CCtx} {s : CSt} {b : Nat} : renOb (renF [0, 1, 2, 3] b) (CS c s) = CS c s := by
  have h : ∀ p, V.rens (renF [0, 1, 2, 3] b) (gV p) = gV p := fun p => rfl
  simp only [CS, CO, renOb, AObj.ren_mE, AObj.ren_gE h]
  rfl
theorem CS_fin {c : CCtx} {s : CSt} {ex : List (Nat × AObj)} : LeS 4 4 (CS c s ++ ex) (CS c s) :=
  CS_end rfl rfl rfl
theorem FO_ren {c : CCtx} {n : Nat} {l : List (Grp × Nat)} {ns : List Nat} {b : Nat} : renOb (renF [0, 1, 2, 3] b) [(0, CO c n), (1, .gro n (gE gV l)), (3, .farr ns)] = [(0, CO c n), (1, .gro n (gE gV l)), (3, .farr ns)] := by
  have h : ∀ p, V.rens (renF [0, 1, 2, 3] b) (gV p) = gV p := fun p => rfl
  simp only [CO, renOb, AObj.ren_gE h]
  rfl
def EntC (P : Program) (c : CCtx) (n : Nat) (e : Ent) (s : CSt) : Prop := FnOk P 28 [.ptr 0 0, e.v] ⟨CS c s, 4⟩ { v := .tup [], ob := CS c (entF c n e s), rd := true }
def SelsC (P : Program) (c : CCtx) (n : Nat) (lab : Str) (l : List Sel) (s : CSt) : Prop := FnOk P 40 [.ptr 0 0, .t (.lst (l.map Sel.enc)), .t (.str lab)] ⟨CS c s, 4⟩ { v := .tup [], ob := CS c (selsF c n lab l s), rd := true }
theorem sels_step (H : Pr18 P) {c : CCtx} {Lb : Str → Prop} {U : List (Str × Str × Nat)} (hc : COk c Lb U) (n : Nat) (lab : Str) (l : List Sel) (s : CSt) (hl : ∀ x, x ∈ l → EntOk Lb ⟨x, lab⟩) (hll : l.length ≤ 140737488355328) (hf : Full s.out)
    (hn : selsN l + phi c.q s.done U ≤ n) (hB : cnt s.out + phi c.q s.done U + selsN l ≤ 549755813888)
    (ih : ∀ e s, EntOk Lb e → Full s.out → selN e.sel + phi c.q s.done U ≤ n → cnt s.out + phi c.q s.done U + selN e.sel ≤ 549755813888 → EntC P c n e s) : SelsC P c n lab l s := by
  unfold SelsC
  generalize hR : selsF c n lab l s = R
  refine FnOk.run H.i40 H.mixed rfl rfl ?_
  refine fR rfl ?_
  refine lM rfl rfl rfl ?_
  refine fM rfl ?_
  refine rList l (fun i (q : CSt) => { env := [(0, .ptr 0 0), (2, .t (.str lab)), (8, .t (.lst (l.map Sel.enc))), (9, .t (.int .i64 l.length)), (10, .t (.int .i64 i))], s := ⟨CS c q, 4⟩ }) (fun r i q => Full q.out ∧ selsF c n lab r q = R ∧ selsN r + phi c.q q.done U ≤ n ∧ cnt q.out + phi c.q q.done U + selsN r ≤ 549755813888) 4 s rfl ⟨hf, hR, hn, hB⟩ rfl rfl rfl ?_ ?_
  · rintro q ⟨hq, hqR, _, _⟩
    have e : q = R := hqR
    subst e
    refine fR rfl ?_
    refine Run.condF rfl rfl (by simp) ?_
    skip
    refine Run.fin rfl (EndOk.chg rfl rfl (.le (.same rfl)) (CS_fin (ex := [])))
  · rintro i x r q h1 hi hd ⟨hq, hqR, hqn, hqB⟩ ihl
    have hx := hl x (List.mem_of_getElem? h1)
    simp only [selsN] at hqn hqB
    have hent := ih ⟨x, lab⟩ q hx hq (by simp only; omega) (by simp only; omega)
    have hp := ent_post hc n ⟨x, lab⟩ q hx hq
    have hp1 : cnt (entF c n ⟨x, lab⟩ q).out + phi c.q (entF c n ⟨x, lab⟩ q).done U ≤ cnt q.out + phi c.q q.done U + selN x := hp.n
    have hp2 : phi c.q (entF c n ⟨x, lab⟩ q).done U ≤ phi c.q q.done U := hp.p
    unfold EntC at hent
    refine fR rfl ?_
    refine Run.condT rfl rfl (by simp; omega) ?_
    refine fR rfl ?_
    refine Mid.elemMapC (Sel.enc_eq x) rfl rfl rfl h1 rfl rfl ?_
    refine fM rfl ?_
    refine Mid.callR [0, 1, 2, 3] (hent) rfl rfl rfl rfl CS_bd (by repeat' (first | exact trivial | exact rfl | refine And.intro ?_ ?_ | exact (congrArg some (AObj.ren_mE _ _ _ _ _ _)).symm | exact (congrArg some (AObj.ren_cE _ _ _)).symm | (refine (congrArg some (AObj.ren_gE ?_ _ _)).symm; intro _; rfl))) rfl rfl (ob' := CS c (entF c n ⟨x, lab⟩ q)) (CS_ren) rfl rfl ?_
    refine fM rfl ?_
    refine aL rfl rfl rfl rfl rfl ?_
    refine fM rfl ?_
    exact rWeak 4 rfl (ihl (entF c n ⟨x, lab⟩ q) ⟨hp.f, hqR, by omega, by omega⟩) rfl rfl rfl
theorem ent_step (H : Pr18 P) {c : CCtx} {Lb : Str → Prop} {U : List (Str × Str × Nat)} (hc : COk c Lb U) (n : Nat) (e : Ent) (s : CSt) (he : EntOk Lb e) (hf : Full s.out)
    (hn : selN e.sel + phi c.q s.done U ≤ n + 1) (hB : cnt s.out + phi c.q s.done U + selN e.sel ≤ 549755813888)
    (ih : ∀ lab l s, (∀ x, x ∈ l → EntOk Lb ⟨x, lab⟩) → l.length ≤ 140737488355328 → Full s.out → selsN l + phi c.q s.done U ≤ n → cnt s.out + phi c.q s.done U + selsN l ≤ 549755813888 → SelsC P c n lab l s) : EntC P c (n + 1) e s := by
  unfold EntC
  have hso := he.s
  have hfl := hf.len
  have hd : DirsOk e.sel.dirs := ⟨hso.dl, fun x hx => (hso.d x hx).1⟩
  rw [selN_eq] at hn hB
  simp only [entF]
  generalize hL : labF e.lab e.sel.dirs = lb
  have hlab := label_ok H e.sel.dirs hd e.lab
  rw [hL] at hlab
  refine FnOk.run H.i28 H.mixed rfl rfl ?_
  refine fR rfl ?_
  refine Mid.call (included_ok H e.sel.dirs hd c.vars hc.vars) rfl rfl rfl rfl ?_
  refine fM rfl ?_
  cases hi : incF c.vars e.sel.dirs with
  | false =>
    simp only [if_true]
    refine Run.condT rfl rfl rfl ?_
    skip
    exact Run.fin rfl (EndOk.chg rfl rfl (.le (.same rfl)) (CS_fin (ex := [_])))
  | true =>
    simp only [Bool.true_eq_false, if_false]
    refine Run.condF rfl rfl rfl ?_
    refine fR rfl ?_
    by_cases hk : e.sel.kind = 3
    · simp only [hk, if_true]
      rw [← hk]
      refine Run.condT rfl rfl (by simp [hk]) ?_
      refine fR rfl ?_
      refine caG rfl rfl (fun hg => ⟨_, rfl, is_ok H.toPr c.ds hc.ds c.on e.sel.on, rfl⟩) rfl rfl ?_
      refine fM rfl ?_
      refine Run.cond rfl rfl (fun hh => ?_) (fun hh => ?_)
      · have h2 : e.sel.on = [] ∨ isF c.ds c.on e.sel.on = true := by simpa using hh
        rw [if_pos h2]
        have hs := ih lb e.sel.sels s (fun x hx => hL ▸ ent_sub he x hx) (by have := hso.sl; omega) hf (by omega) (by omega)
        unfold SelsC at hs
        refine fR rfl ?_
        refine Mid.call (hlab) rfl rfl rfl rfl ?_
        skip
        refine Mid.callR [0, 1, 2, 3] (hs) rfl rfl rfl rfl CS_bd (by repeat' (first | exact trivial | exact rfl | refine And.intro ?_ ?_ | exact (congrArg some (AObj.ren_mE _ _ _ _ _ _)).symm | exact (congrArg some (AObj.ren_cE _ _ _)).symm | (refine (congrArg some (AObj.ren_gE ?_ _ _)).symm; intro _; rfl))) rfl rfl (ob' := CS c (selsF c n lb e.sel.sels s)) (CS_ren) rfl rfl ?_
        refine fM rfl ?_
        exact Run.fin rfl (EndOk.chg rfl rfl (.le (.same rfl)) (CS_fin (s := selsF c n lb e.sel.sels s) (ex := [_])))
      · have h2 : ¬ (e.sel.on = [] ∨ isF c.ds c.on e.sel.on = true) := by simpa using hh
        rw [if_neg h2]
        skip
        exact Run.fin rfl (EndOk.chg rfl rfl (.le (.same rfl)) (CS_fin (ex := [_])))
    · simp only [hk, if_false]
      refine Run.condF rfl rfl (by simp [hk]) ?_
      refine fR rfl ?_
      by_cases hk2 : e.sel.kind = 2
      · simp only [hk2, if_true]
        rw [← hk2]
        have hfd := qfind_ok H.toPr13 c.q hc.q e.sel.name
        refine Run.condT rfl rfl (by simp [hk2]) ?_
        refine fR rfl ?_
        refine Mid.call (hfd) rfl rfl rfl rfl ?_
        refine fM rfl ?_
        refine Mid.call (hlab) rfl rfl rfl rfl ?_
        refine fM rfl ?_
        refine caG rfl rfl (fun hg => ⟨_, rfl, is_ok H.toPr c.ds hc.ds c.on ((findFrag e.sel.name c.q.frags).getD Frag.zero).on, rfl⟩) rfl rfl ?_
        refine fM rfl ?_
        refine Mid.lookTG (((e.sel.name, lb) : Str × Str)) rfl rfl rfl rfl rfl rfl (markE_ok) (by (repeat' (first | exact trivial | exact Bool.not_or_self _ | exact grd1 _ | exact grd2 _ | exact grd3 _ _ | exact grd4 _ _ | refine And.intro ?_ ?_ | exact rfl | (simp; done) | (simp <;> omega))); done) (by (repeat' (first | exact trivial | exact Bool.not_or_self _ | exact grd1 _ | exact grd2 _ | exact grd3 _ _ | exact grd4 _ _ | refine And.intro ?_ ?_ | exact rfl | (simp; done) | (simp <;> omega))); done) rfl ?_
        refine fM rfl ?_
        rw [kget_done]
        cases hfr : findFrag e.sel.name c.q.frags with
        | none =>
          refine Run.condF rfl rfl rfl ?_
          skip
          exact Run.fin rfl (EndOk.chg rfl rfl (.le (.same rfl)) (CS_fin (ex := [_, _, _])))
        | some f =>
          simp only [Option.getD_some, Option.isSome_some]
          by_cases hh : isF c.ds c.on f.on = true ∧ ¬ (e.sel.name, lb) ∈ s.done
          · rw [if_pos hh]
            have hU := hc.mark _ f lb hfr (hL ▸ he.l.l _ he.o)
            have hph := phi_note (q := c.q) hh.2 hU
            have hfo := (hc.q.f f (findFrag_mem hfr)).s.1
            have hs := ih lb f.sels ⟨s.out, s.done ++ [(e.sel.name, lb)]⟩ (fun x hx => hL ▸ ent_frag hc he hfr x hx) (by omega) hf (by simp only; omega) (by simp only; omega)
            unfold SelsC at hs
            refine Run.condT rfl rfl (by simp [hh.1, hh.2]) ?_
            refine fR rfl ?_
            refine Mid.mapT (((e.sel.name, lb) : Str × Str)) rfl rfl rfl rfl (markE_ok) rfl ?_
            refine fM rfl ?_
            rw [kset_done hh.2]
            refine Mid.callR [0, 1, 2, 3] (hs) rfl rfl rfl rfl CS_bd (by repeat' (first | exact trivial | exact rfl | refine And.intro ?_ ?_ | exact (congrArg some (AObj.ren_mE _ _ _ _ _ _)).symm | exact (congrArg some (AObj.ren_cE _ _ _)).symm | (refine (congrArg some (AObj.ren_gE ?_ _ _)).symm; intro _; rfl))) rfl rfl (ob' := CS c (selsF c n lb f.sels ⟨s.out, s.done ++ [(e.sel.name, lb)]⟩)) (CS_ren) rfl rfl ?_
            refine fM rfl ?_
            exact Run.fin rfl (EndOk.chg rfl rfl (.le (.same rfl)) (CS_fin (s := selsF c n lb f.sels ⟨s.out, s.done ++ [(e.sel.name, lb)]⟩) (ex := [_, _, _])))
          · rw [if_neg hh]
            refine Run.condF rfl rfl ?_ ?_
            · cases h1 : isF c.ds c.on f.on with
              | false => simp
              | true =>
                have : (e.sel.name, lb) ∈ s.done := by
                  apply Classical.byContradiction
                  intro h2; exact hh ⟨h1, h2⟩
                simp [this]
            skip
            exact Run.fin rfl (EndOk.chg rfl rfl (.le (.same rfl)) (CS_fin (ex := [_, _, _])))
      · simp only [hk2, if_false]
        have hfo := field_ok H c s e (by omega) (fun g hg => by have := cnt_mem hg; omega)
        refine Run.condF rfl rfl (by simp [hk2]) ?_
        refine fR rfl ?_
        refine Mid.callR [0, 1, 2, 3] (hfo) rfl rfl rfl rfl CS_bd (by repeat' (first | exact trivial | exact rfl | refine And.intro ?_ ?_ | exact (congrArg some (AObj.ren_mE _ _ _ _ _ _)).symm | exact (congrArg some (AObj.ren_cE _ _ _)).symm | (refine (congrArg some (AObj.ren_gE ?_ _ _)).symm; intro _; rfl))) rfl rfl (ob' := [(0, CO c (addF e s.out).length), (1, .gro (addF e s.out).length (gE gV (addF e s.out).zipIdx)), (3, .farr (gL (addF e s.out)))]) (FO_ren) rfl rfl ?_
        refine fM rfl ?_
        exact Run.fin rfl (EndOk.chg rfl rfl (.le (.same rfl)) (CS_fin (s := ⟨addF e s.out, s.done⟩) (ex := [_])))
theorem ent_ok (H : Pr18 P) {c : CCtx} {Lb : Str → Prop} {U : List (Str × Str × Nat)} (hc : COk c Lb U) : ∀ (n : Nat) (e : Ent) (s : CSt), EntOk Lb e → Full s.out → selN e.sel + phi c.q s.done U ≤ n → cnt s.out + phi c.q s.done U + selN e.sel ≤ 549755813888 → EntC P c n e s
  | 0, e, s, he, hf, hn, hB => by rw [selN_eq] at hn; omega
  | n + 1, e, s, he, hf, hn, hB => ent_step H hc n e s he hf hn hB fun lab l s hl hll hf hn hB => sels_step H hc n lab l s hl hll hf hn hB (ent_ok H hc n)
end Go.GB.C18


/-
  H18F: chapter 18: the reference computes what entries collect.
-/
namespace Go.GB.C18
open Go.GB Go.GB.C11
set_option linter.unusedSimpArgs false
set_option linter.unusedVariables false
set_option maxRecDepth 100000
set_option maxHeartbeats 8000000
variable {P : Program}
theorem RS_ren {c : CCtx} {s : CSt} {b : Nat} : renOb (renF [0, 1, 2, 3] b) (RS c s) = RS c s := by
  have h : ∀ p, V.rens (renF [0, 1, 2, 3] b) (gV p) = gV p := fun p => rfl
  simp only [RS, RO, renOb, AObj.ren_gE h]
  rfl
theorem RFO_ren {c : CCtx} {d : List (Str × Str)} {n : Nat} {l : List (Grp × Nat)} {ns : List Nat} {b : Nat} : renOb (renF [0, 1, 2, 3] b) [(0, RO c d n), (1, .gro n (gE gV l)), (3, .farr ns)] = [(0, RO c d n), (1, .gro n (gE gV l)), (3, .farr ns)] := by
  have h : ∀ p, V.rens (renF [0, 1, 2, 3] b) (gV p) = gV p := fun p => rfl
  simp only [RO, renOb, AObj.ren_gE h]
  rfl
theorem RS_fin {c : CCtx} {s : CSt} {ex : List (Nat × AObj)} : LeS 4 4 (RS c s ++ ex) (RS c s) :=
  RS_end rfl rfl rfl rfl rfl
def REntC (P : Program) (c : CCtx) (n : Nat) (e : Ent) (s : CSt) : Prop := FnOk P 29 [.ptr 0 0, e.v] ⟨RS c s, 4⟩ { v := .tup [], ob := RS c (entF c n e s), rd := true }
def RSelsC (P : Program) (c : CCtx) (n : Nat) (lab : Str) (l : List Sel) (s : CSt) : Prop := FnOk P 46 [.ptr 0 0, .t (.lst (l.map Sel.enc)), .t (.str lab)] ⟨RS c s, 4⟩ { v := .tup [], ob := RS c (selsF c n lab l s), rd := true }
theorem rsels_step (H : Pr18 P) {c : CCtx} {Lb : Str → Prop} {U : List (Str × Str × Nat)} (hc : COk c Lb U) (n : Nat) (lab : Str) (l : List Sel) (s : CSt) (hl : ∀ x, x ∈ l → EntOk Lb ⟨x, lab⟩) (hll : l.length ≤ 140737488355328) (hf : Full s.out)
    (hn : selsN l + phi c.q s.done U ≤ n) (hB : cnt s.out + phi c.q s.done U + selsN l ≤ 549755813888) (hD : s.done.length + phi c.q s.done U ≤ 549755813888)
    (ih : ∀ e s, EntOk Lb e → Full s.out → selN e.sel + phi c.q s.done U ≤ n → cnt s.out + phi c.q s.done U + selN e.sel ≤ 549755813888 → s.done.length + phi c.q s.done U ≤ 549755813888 → REntC P c n e s) : RSelsC P c n lab l s := by
  unfold RSelsC
  generalize hR : selsF c n lab l s = R
  refine FnOk.run H.i46 H.mixed rfl rfl ?_
  refine fR rfl ?_
  refine rList l (fun i (q : CSt) => { env := [(0, .ptr 0 0), (1, .t (.lst (l.map Sel.enc))), (2, .t (.str lab)), (6, .t (.int .i64 i))], s := ⟨RS c q, 4⟩ }) (fun r i q => Full q.out ∧ selsF c n lab r q = R ∧ selsN r + phi c.q q.done U ≤ n ∧ cnt q.out + phi c.q q.done U + selsN r ≤ 549755813888 ∧ q.done.length + phi c.q q.done U ≤ 549755813888) 4 s rfl ⟨hf, hR, hn, hB, hD⟩ rfl rfl rfl ?_ ?_
  · rintro q ⟨hq, hqR, _, _, _⟩
    have e : q = R := hqR
    subst e
    refine fR rfl ?_
    refine lM rfl rfl rfl ?_
    refine fM rfl ?_
    refine Run.condF rfl rfl (by simp) ?_
    skip
    refine Run.fin rfl (EndOk.chg rfl rfl (.le (.same rfl)) (RS_fin (ex := [])))
  · rintro i x r q h1 hi hd ⟨hq, hqR, hqn, hqB, hqD⟩ ihl
    have hx := hl x (List.mem_of_getElem? h1)
    simp only [selsN] at hqn hqB
    have hent := ih ⟨x, lab⟩ q hx hq (by simp only; omega) (by simp only; omega) hqD
    have hp := ent_post hc n ⟨x, lab⟩ q hx hq
    have hp1 : cnt (entF c n ⟨x, lab⟩ q).out + phi c.q (entF c n ⟨x, lab⟩ q).done U ≤ cnt q.out + phi c.q q.done U + selN x := hp.n
    have hp2 : phi c.q (entF c n ⟨x, lab⟩ q).done U ≤ phi c.q q.done U := hp.p
    unfold REntC at hent
    refine fR rfl ?_
    refine lM rfl rfl rfl ?_
    refine fM rfl ?_
    refine Run.condT rfl rfl (by simp; omega) ?_
    refine fR rfl ?_
    refine Mid.elemMapC (Sel.enc_eq x) rfl rfl rfl h1 rfl rfl ?_
    refine fM rfl ?_
    refine Mid.callR [0, 1, 2, 3] (hent) rfl rfl rfl rfl RS_bd (by repeat' (first | exact trivial | exact rfl | refine And.intro ?_ ?_ | exact (congrArg some (AObj.ren_mE _ _ _ _ _ _)).symm | exact (congrArg some (AObj.ren_cE _ _ _)).symm | (refine (congrArg some (AObj.ren_gE ?_ _ _)).symm; intro _; rfl))) rfl rfl (ob' := RS c (entF c n ⟨x, lab⟩ q)) (RS_ren) rfl rfl ?_
    refine fM rfl ?_
    refine aL rfl rfl rfl rfl rfl ?_
    refine fM rfl ?_
    exact rWeak 4 rfl (ihl (entF c n ⟨x, lab⟩ q) ⟨hp.f, hqR, by omega, by omega, Nat.le_trans hp.d hqD⟩) rfl rfl rfl
theorem rent_step (H : Pr18 P) {c : CCtx} {Lb : Str → Prop} {U : List (Str × Str × Nat)} (hc : COk c Lb U) (n : Nat) (e : Ent) (s : CSt) (he : EntOk Lb e) (hf : Full s.out)
    (hn : selN e.sel + phi c.q s.done U ≤ n + 1) (hB : cnt s.out + phi c.q s.done U + selN e.sel ≤ 549755813888) (hD : s.done.length + phi c.q s.done U ≤ 549755813888)
    (ih : ∀ lab l s, (∀ x, x ∈ l → EntOk Lb ⟨x, lab⟩) → l.length ≤ 140737488355328 → Full s.out → selsN l + phi c.q s.done U ≤ n → cnt s.out + phi c.q s.done U + selsN l ≤ 549755813888 → s.done.length + phi c.q s.done U ≤ 549755813888 → RSelsC P c n lab l s) : REntC P c (n + 1) e s := by
  unfold REntC
  have hso := he.s
  have hfl := hf.len
  have hd : DirsOk e.sel.dirs := ⟨hso.dl, fun x hx => (hso.d x hx).1⟩
  rw [selN_eq] at hn hB
  simp only [entF]
  generalize hL : labF e.lab e.sel.dirs = lb
  have hlab := rlabel_ok H e.sel.dirs hd e.lab
  rw [hL] at hlab
  refine FnOk.run H.i29 H.mixed rfl rfl ?_
  refine fR rfl ?_
  refine Mid.call (rincluded_ok H e.sel.dirs hd c.vars hc.vars) rfl rfl rfl rfl ?_
  refine fM rfl ?_
  cases hi : incF c.vars e.sel.dirs with
  | false =>
    simp only [if_true]
    refine Run.condT rfl rfl rfl ?_
    skip
    exact Run.fin rfl (EndOk.chg rfl rfl (.le (.same rfl)) (RS_fin (ex := [_, _])))
  | true =>
    simp only [Bool.true_eq_false, if_false]
    refine Run.condF rfl rfl rfl ?_
    refine fR rfl ?_
    refine Mid.call (hlab) rfl rfl rfl rfl ?_
    refine fM rfl ?_
    by_cases hk : e.sel.kind = 3
    · simp only [hk, if_true]
      rw [← hk]
      refine Run.condT rfl rfl (by simp [hk]) ?_
      refine fR rfl ?_
      refine caG rfl rfl (fun hg => ⟨_, rfl, rIs_ok H.toPr c.ds hc.ds c.on e.sel.on, rfl⟩) rfl rfl ?_
      refine fM rfl ?_
      refine Run.cond rfl rfl (fun hh => ?_) (fun hh => ?_)
      · have h2 : e.sel.on = [] ∨ isF c.ds c.on e.sel.on = true := by simpa using hh
        rw [if_pos h2]
        have hs := ih lb e.sel.sels s (fun x hx => hL ▸ ent_sub he x hx) (by have := hso.sl; omega) hf (by omega) (by omega) hD
        unfold RSelsC at hs
        refine fR rfl ?_
        refine Mid.callR [0, 1, 2, 3] (hs) rfl rfl rfl rfl RS_bd (by repeat' (first | exact trivial | exact rfl | refine And.intro ?_ ?_ | exact (congrArg some (AObj.ren_mE _ _ _ _ _ _)).symm | exact (congrArg some (AObj.ren_cE _ _ _)).symm | (refine (congrArg some (AObj.ren_gE ?_ _ _)).symm; intro _; rfl))) rfl rfl (ob' := RS c (selsF c n lb e.sel.sels s)) (RS_ren) rfl rfl ?_
        refine fM rfl ?_
        exact Run.fin rfl (EndOk.chg rfl rfl (.le (.same rfl)) (RS_fin (s := selsF c n lb e.sel.sels s) (ex := [_, _])))
      · have h2 : ¬ (e.sel.on = [] ∨ isF c.ds c.on e.sel.on = true) := by simpa using hh
        rw [if_neg h2]
        skip
        exact Run.fin rfl (EndOk.chg rfl rfl (.le (.same rfl)) (RS_fin (ex := [_, _])))
    · simp only [hk, if_false]
      refine Run.condF rfl rfl (by simp [hk]) ?_
      refine fR rfl ?_
      by_cases hk2 : e.sel.kind = 2
      · simp only [hk2, if_true]
        rw [← hk2]
        have hfd := rqfind_ok H.toPr13 c.q hc.q e.sel.name
        cases hfr : findFrag e.sel.name c.q.frags with
        | none =>
          rw [hfr] at hfd
          refine Run.condT rfl rfl (by simp [hk2]) ?_
          refine fR rfl ?_
          refine Mid.call (hfd) rfl rfl rfl rfl ?_
          refine fM rfl ?_
          refine Mid.grdF rfl rfl rfl rfl rfl ?_
          refine fM rfl ?_
          refine Mid.grdF rfl rfl rfl rfl rfl ?_
          refine fM rfl ?_
          refine Run.condF rfl rfl rfl ?_
          skip
          exact Run.fin rfl (EndOk.chg rfl rfl (.le (.same rfl)) (RS_fin (ex := [_, _, _])))
        | some f =>
          rw [hfr] at hfd
          simp only [Option.getD_some, Option.isSome_some] at hfd
          dsimp only
          have hIs := rIs_ok H.toPr c.ds hc.ds c.on f.on
          cases h1 : isF c.ds c.on f.on with
          | false =>
            rw [h1] at hIs
            rw [if_neg (fun h => by cases h.1)]
            refine Run.condT rfl rfl (by simp [hk2]) ?_
            refine fR rfl ?_
            refine Mid.call (hfd) rfl rfl rfl rfl ?_
            refine fM rfl ?_
            refine caG rfl rfl (fun hg => ⟨_, rfl, hIs, rfl⟩) rfl rfl ?_
            refine fM rfl ?_
            refine Mid.grdF rfl rfl rfl rfl rfl ?_
            refine fM rfl ?_
            refine Run.condF rfl rfl rfl ?_
            skip
            exact Run.fin rfl (EndOk.chg rfl rfl (.le (.same rfl)) (RS_fin (s := s) (ex := [_, _, _])))
          | true =>
            rw [h1] at hIs
            have hfs := rfresh_ok H c s (e.sel.name, lb) (by omega)
            refine Run.condT rfl rfl (by simp [hk2]) ?_
            refine fR rfl ?_
            refine Mid.call (hfd) rfl rfl rfl rfl ?_
            refine fM rfl ?_
            refine caG rfl rfl (fun hg => ⟨_, rfl, hIs, rfl⟩) rfl rfl ?_
            refine fM rfl ?_
            refine Mid.ungd rfl rfl rfl ?_
            refine Mid.callR [0, 1, 2, 3] (hfs) rfl rfl rfl rfl RS_bd (by repeat' (first | exact trivial | exact rfl | refine And.intro ?_ ?_ | exact (congrArg some (AObj.ren_mE _ _ _ _ _ _)).symm | exact (congrArg some (AObj.ren_cE _ _ _)).symm | (refine (congrArg some (AObj.ren_gE ?_ _ _)).symm; intro _; rfl))) rfl rfl (ob' := [(0, RO c (noteF (e.sel.name, lb) s.done) s.out.length), (2, .arr (noteF (e.sel.name, lb) s.done).length)]) (rfl) rfl rfl ?_
            refine fM rfl ?_
            by_cases hm : (e.sel.name, lb) ∈ s.done
            · have hnt : noteF (e.sel.name, lb) s.done = s.done := by unfold noteF; rw [if_pos hm]
              rw [hnt, if_neg (fun h => h.2 hm)]
              refine Run.condF rfl rfl (by simp [hm]) ?_
              skip
              exact Run.fin rfl (EndOk.chg rfl rfl (.le (.same rfl)) (RS_fin (s := s) (ex := [_, _, _])))
            · have hnt : noteF (e.sel.name, lb) s.done = s.done ++ [(e.sel.name, lb)] := by unfold noteF; rw [if_neg hm]
              rw [hnt, if_pos ⟨rfl, hm⟩]
              have hU := hc.mark _ f lb hfr (hL ▸ he.l.l _ he.o)
              have hph := phi_note (q := c.q) hm hU
              have hfo := (hc.q.f f (findFrag_mem hfr)).s.1
              have hs := ih lb f.sels ⟨s.out, s.done ++ [(e.sel.name, lb)]⟩ (fun x hx => hL ▸ ent_frag hc he hfr x hx) (by omega) hf (by simp only; omega) (by simp only; omega) (by simp only [List.length_append, List.length_singleton]; omega)
              unfold RSelsC at hs
              refine Run.condT rfl rfl (by simp [hm]) ?_
              refine fR rfl ?_
              refine Mid.callR [0, 1, 2, 3] (hs) rfl rfl rfl rfl RS_bd (by repeat' (first | exact trivial | exact rfl | refine And.intro ?_ ?_ | exact (congrArg some (AObj.ren_mE _ _ _ _ _ _)).symm | exact (congrArg some (AObj.ren_cE _ _ _)).symm | (refine (congrArg some (AObj.ren_gE ?_ _ _)).symm; intro _; rfl))) rfl rfl (ob' := RS c (selsF c n lb f.sels ⟨s.out, s.done ++ [(e.sel.name, lb)]⟩)) (RS_ren) rfl rfl ?_
              refine fM rfl ?_
              exact Run.fin rfl (EndOk.chg rfl rfl (.le (.same rfl)) (RS_fin (s := selsF c n lb f.sels ⟨s.out, s.done ++ [(e.sel.name, lb)]⟩) (ex := [_, _, _])))
      · simp only [hk2, if_false]
        have hfo := radd_ok H c s e (by omega) (fun g hg => by have := cnt_mem hg; omega)
        refine Run.condF rfl rfl (by simp [hk2]) ?_
        refine fR rfl ?_
        refine Mid.callR [0, 1, 2, 3] (hfo) rfl rfl rfl rfl RS_bd (by repeat' (first | exact trivial | exact rfl | refine And.intro ?_ ?_ | exact (congrArg some (AObj.ren_mE _ _ _ _ _ _)).symm | exact (congrArg some (AObj.ren_cE _ _ _)).symm | (refine (congrArg some (AObj.ren_gE ?_ _ _)).symm; intro _; rfl))) rfl rfl (ob' := [(0, RO c s.done (addF e s.out).length), (1, .gro (addF e s.out).length (gE gV (addF e s.out).zipIdx)), (3, .farr (gL (addF e s.out)))]) (RFO_ren) rfl rfl ?_
        refine fM rfl ?_
        exact Run.fin rfl (EndOk.chg rfl rfl (.le (.same rfl)) (RS_fin (s := ⟨addF e s.out, s.done⟩) (ex := [_, _])))
theorem rent_ok (H : Pr18 P) {c : CCtx} {Lb : Str → Prop} {U : List (Str × Str × Nat)} (hc : COk c Lb U) : ∀ (n : Nat) (e : Ent) (s : CSt), EntOk Lb e → Full s.out → selN e.sel + phi c.q s.done U ≤ n → cnt s.out + phi c.q s.done U + selN e.sel ≤ 549755813888 → s.done.length + phi c.q s.done U ≤ 549755813888 → REntC P c n e s
  | 0, e, s, he, hf, hn, hB, hD => by rw [selN_eq] at hn; omega
  | n + 1, e, s, he, hf, hn, hB, hD => rent_step H hc n e s he hf hn hB hD fun lab l s hl hll hf hn hB hD => rsels_step H hc n lab l s hl hll hf hn hB hD (rent_ok H hc n)
end Go.GB.C18


/-
  H18G: chapter 18: Fields of the program and of the reference.
-/
namespace Go.GB.C18
open Go.GB Go.GB.C11
set_option linter.unusedSimpArgs false
set_option linter.unusedVariables false
set_option maxRecDepth 100000
set_option maxHeartbeats 8000000
variable {P : Program}
def Grp.enc (g : Grp) : List T := [.str g.key, .lst (g.list.map Ent.enc)]
def gVk (k : Nat) (p : Grp × Nat) : List V := [.t (.str p.1.key), .fow k p.2 8 (p.1.list.map Ent.enc)]
theorem gVk_cells (k : Nat) : ∀ (l : List Grp) (i : Nat), (gE (gVk k) (l.zipIdx i)).mapM V.cell1 = some (l.map Grp.enc).flatten
  | [], i => rfl
  | g :: r, i => by
    have ih := gVk_cells k r (i + 1)
    simp only [List.zipIdx_cons, gE, List.map_cons, List.flatten_cons] at ih ⊢
    rw [List.mapM_append, ih]
    rfl
theorem out_freeze {s : S} {m k kf n : Nat} {l : List Grp} (hk : m ≤ k) (hs : aget s.sto k = some (.gro n (gE (gVk kf) l.zipIdx))) (hn : n = l.length) : LeR m s (.gsl k n 0 n 2) (.t (.lst (l.map Grp.enc))) := by
  subst hn
  have hlen := gE_length (f := gVk kf) (sz := 2) (fun _ => rfl) l.zipIdx
  simp only [List.length_zipIdx] at hlen
  refine LeZ.gsl (ts := (l.map Grp.enc).flatten) hk hs (by rw [hlen]; omega) ?_ rfl (by simp) (allLen_map (f := Grp.enc) (sz := 2) (fun _ => rfl) _)
  rw [List.drop_zero, List.take_of_length_le (by rw [hlen]; omega)]
  exact gVk_cells kf l 0
/-- entries one after the other -/
def entsF (c : CCtx) (n : Nat) (l : List Ent) (s : CSt) : CSt := l.foldl (fun s e => entF c n e s) s
def entsN : List Ent → Nat
  | [] => 0
  | e :: r => selN e.sel + entsN r
def COk' (c : CCtx) (n : Nat) : AObj := .cells [.t (.lst (c.ds.map Def.enc)), .t (.lst (c.q.ops.map Op.enc)), .t (.lst (c.q.frags.map Frag.enc)), .t (.str c.on), .t (.int .i64 c.vars.kind), .t (.int .i64 c.vars.int), .t (.str c.vars.text), .t (.lst (c.vars.items.map Val.enc)), .t (.lst (c.vars.keys.map sE)), .gsl 5 n 0 n 2, .mp 3]
def CS' (c : CCtx) (s : CSt) : List (Nat × AObj) := [(4, COk' c s.out.length), (5, .gro s.out.length (gE (gVk 6) s.out.zipIdx)), (3, .map true (mE markE T.bool (s.done.map fun m => (m, true))) none), (6, .farr (gL s.out))]
theorem CS_ren' {c : CCtx} {s : CSt} {b : Nat} : renOb (renF [4, 5, 3, 6] b) (CS c s) = CS' c s := by
  have h : ∀ p, V.rens (renF [4, 5, 3, 6] b) (gV p) = gVk 6 p := fun p => rfl
  simp only [CS, CO, CS', COk', renOb, AObj.ren_mE, AObj.ren_gE h]
  rfl
theorem fields_ok (H : Pr18 P) {c : CCtx} {Lb : Str → Prop} {U : List (Str × Str × Nat)} (hc : COk c Lb U) (n : Nat) (l : List Ent) (hl : ∀ e, e ∈ l → EntOk Lb e) (hll : l.length ≤ 140737488355328) (hn : entsN l + phi c.q [] U ≤ n) (hB : phi c.q [] U + entsN l ≤ 549755813888) :
    FnOk P 12 [docV c.ds, c.q.v, .t (.str c.on), .t (.lst (l.map Ent.enc)), c.vars.v] ⟨[], 0⟩ { v := .t (.lst ((entsF c n l ⟨[], []⟩).out.map Grp.enc)) } := by
  generalize hR : entsF c n l ⟨[], []⟩ = R
  refine FnOk.run H.i12 H.mixed rfl rfl ?_
  refine fR rfl ?_
  refine Mid.mkmapT markE T.bool rfl ?_
  refine fM rfl ?_
  refine lM rfl rfl rfl ?_
  refine fM rfl ?_
  refine rList l (fun i (q : CSt) => { env := [(11, .ptr 4 0), (21, .t (.lst (l.map Ent.enc))), (22, .t (.int .i64 l.length)), (23, .t (.int .i64 i))], s := ⟨CS' c q, 7⟩ }) (fun r i q => Full q.out ∧ entsF c n r q = R ∧ entsN r + phi c.q q.done U ≤ n ∧ cnt q.out + phi c.q q.done U + entsN r ≤ 549755813888) 5 ⟨[], []⟩ rfl ⟨(fun g hg => by cases hg), hR, hn, by simpa [cnt] using hB⟩ rfl rfl rfl ?_ ?_
  · rintro q ⟨hq, hqR, _, _⟩
    have e : q = R := hqR
    subst e
    refine fR rfl ?_
    refine Run.condF rfl rfl (by simp) ?_
    refine fR rfl ?_
    refine Run.fin rfl (EndOk.go ?_); exact out_freeze (Nat.zero_le _) rfl rfl
  · rintro i x r q h1 hi hd ⟨hq, hqR, hqn, hqB⟩ ihl
    have hx := hl x (List.mem_of_getElem? h1)
    simp only [entsN] at hqn hqB
    have hent := ent_ok H hc n x q hx hq (by omega) (by omega)
    have hp := ent_post hc n x q hx hq
    have hp1 := hp.n
    have hp2 := hp.p
    unfold EntC at hent
    refine fR rfl ?_
    refine Run.condT rfl rfl (by simp; omega) ?_
    refine fR rfl ?_
    refine Mid.elemMap rfl rfl rfl h1 rfl rfl ?_
    refine fM rfl ?_
    refine Mid.callR [4, 5, 3, 6] (hent) rfl rfl rfl rfl CS_bd (by repeat' (first | exact trivial | exact rfl | refine And.intro ?_ ?_ | exact (congrArg some (AObj.ren_mE _ _ _ _ _ _)).symm | exact (congrArg some (AObj.ren_cE _ _ _)).symm | (refine (congrArg some (AObj.ren_gE ?_ _ _)).symm; intro _; rfl))) rfl rfl (ob' := CS' c (entF c n x q)) (CS_ren') rfl rfl ?_
    refine fM rfl ?_
    refine aL rfl rfl rfl rfl rfl ?_
    refine fM rfl ?_
    exact rWeak 7 rfl (ihl (entF c n x q) ⟨hp.f, hqR, by omega, by omega⟩) rfl rfl rfl
def ROk' (c : CCtx) (d : List (Str × Str)) (n : Nat) : AObj := .cells [.t (.lst (c.ds.map Def.enc)), .t (.lst (c.q.ops.map Op.enc)), .t (.lst (c.q.frags.map Frag.enc)), .t (.str c.on), .t (.int .i64 c.vars.kind), .t (.int .i64 c.vars.int), .t (.str c.vars.text), .t (.lst (c.vars.items.map Val.enc)), .t (.lst (c.vars.keys.map sE)), .own 5 2 (d.map markE), .gsl 4 n 0 n 2]
def RS' (c : CCtx) (s : CSt) : List (Nat × AObj) := [(3, ROk' c s.done s.out.length), (4, .gro s.out.length (gE (gVk 6) s.out.zipIdx)), (5, .arr s.done.length), (6, .farr (gL s.out))]
theorem RS_ren' {c : CCtx} {s : CSt} {b : Nat} : renOb (renF [3, 4, 5, 6] b) (RS c s) = RS' c s := by
  have h : ∀ p, V.rens (renF [3, 4, 5, 6] b) (gV p) = gVk 6 p := fun p => rfl
  simp only [RS, RO, RS', ROk', renOb, AObj.ren_gE h]
  rfl
theorem rfields_ok (H : Pr18 P) {c : CCtx} {Lb : Str → Prop} {U : List (Str × Str × Nat)} (hc : COk c Lb U) (n : Nat) (l : List Ent) (hl : ∀ e, e ∈ l → EntOk Lb e) (hll : l.length ≤ 140737488355328) (hn : entsN l + phi c.q [] U ≤ n) (hB : phi c.q [] U + entsN l ≤ 549755813888) :
    FnOk P 14 [docV c.ds, c.q.v, .t (.str c.on), .t (.lst (l.map Ent.enc)), c.vars.v] ⟨[], 0⟩ { v := .t (.lst ((entsF c n l ⟨[], []⟩).out.map Grp.enc)) } := by
  generalize hR : entsF c n l ⟨[], []⟩ = R
  refine FnOk.run H.i14 H.mixed rfl rfl ?_
  refine fR rfl ?_
  refine rList l (fun i (q : CSt) => { env := [(3, .t (.lst (l.map Ent.enc))), (11, .ptr 3 0), (12, .t (.int .i64 i))], s := ⟨RS' c q, 7⟩ }) (fun r i q => Full q.out ∧ entsF c n r q = R ∧ entsN r + phi c.q q.done U ≤ n ∧ cnt q.out + phi c.q q.done U + entsN r ≤ 549755813888 ∧ q.done.length + phi c.q q.done U ≤ 549755813888) 4 ⟨[], []⟩ rfl ⟨(fun g hg => by cases hg), hR, hn, by simpa [cnt] using hB, by simp; omega⟩ rfl rfl rfl ?_ ?_
  · rintro q ⟨hq, hqR, _, _, _⟩
    have e : q = R := hqR
    subst e
    refine fR rfl ?_
    refine lM rfl rfl rfl ?_
    refine fM rfl ?_
    refine Run.condF rfl rfl (by simp) ?_
    refine fR rfl ?_
    refine Run.fin rfl (EndOk.go ?_); exact out_freeze (Nat.zero_le _) rfl rfl
  · rintro i x r q h1 hi hd ⟨hq, hqR, hqn, hqB, hqD⟩ ihl
    have hx := hl x (List.mem_of_getElem? h1)
    simp only [entsN] at hqn hqB
    have hent := rent_ok H hc n x q hx hq (by omega) (by omega) hqD
    have hp := ent_post hc n x q hx hq
    have hp1 := hp.n
    have hp2 := hp.p
    unfold REntC at hent
    refine fR rfl ?_
    refine lM rfl rfl rfl ?_
    refine fM rfl ?_
    refine Run.condT rfl rfl (by simp; omega) ?_
    refine fR rfl ?_
    refine Mid.elemMap rfl rfl rfl h1 rfl rfl ?_
    refine fM rfl ?_
    refine Mid.callR [3, 4, 5, 6] (hent) rfl rfl rfl rfl RS_bd (by repeat' (first | exact trivial | exact rfl | refine And.intro ?_ ?_ | exact (congrArg some (AObj.ren_mE _ _ _ _ _ _)).symm | exact (congrArg some (AObj.ren_cE _ _ _)).symm | (refine (congrArg some (AObj.ren_gE ?_ _ _)).symm; intro _; rfl))) rfl rfl (ob' := RS' c (entF c n x q)) (RS_ren') rfl rfl ?_
    refine fM rfl ?_
    refine aL rfl rfl rfl rfl rfl ?_
    refine fM rfl ?_
    exact rWeak 7 rfl (ihl (entF c n x q) ⟨hp.f, hqR, by omega, by omega, Nat.le_trans hp.d hqD⟩) rfl rfl rfl
end Go.GB.C18


/-
  H18H: chapter 18: sizes of documents; whether a case is small.
-/
namespace Go.GB.C18
open Go.GB Go.GB.C11
set_option linter.unusedSimpArgs false
set_option linter.unusedVariables false
set_option maxRecDepth 100000
set_option maxHeartbeats 8000000
variable {P : Program}
mutual
def szV : Val → Int
  | .mk _ _ _ its _ => szL 1 its
def szL : Int → List Val → Int
  | n, [] => n
  | n, x :: r => szL (IntKind.i64.wrap (n + szV x)) r
end
theorem szV_eq (v : Val) : szV v = szL 1 v.items := by cases v; rfl
def SizeC (P : Program) (v : Val) : Prop := FnOk P 58 [v.v] ⟨[], 0⟩ { v := .t (.int .i64 (szV v)) }
theorem size_step (H : Pr18 P) (v : Val) (hv : v.Ok) (hrec : ∀ x, x ∈ v.items → SizeC P x) : SizeC P v := by
  have hil := hv.il
  unfold SizeC
  rw [szV_eq]
  refine FnOk.run H.i58 H.mixed rfl rfl ?_
  refine fR rfl ?_
  refine rList v.items (fun i (n : Int) => { env := [(1, .ptr 0 0), (3, .t (.int .i64 n)), (4, .t (.int .i64 i))], s := ⟨[(0, (.cells [.t (.int .i64 v.kind), .t (.int .i64 v.int), .t (.str v.text), .t (.lst (v.items.map Val.enc)), .t (.lst (v.keys.map sE))]))], 1⟩ }) (fun r i n => szL 1 v.items = szL n r) 1 (1 : Int) rfl rfl rfl rfl rfl ?_ ?_
  · rintro n hinv
    rw [hinv]
    refine fR rfl ?_
    refine lM rfl rfl rfl ?_
    refine fM rfl ?_
    refine Run.condF rfl rfl (by simp) ?_
    refine fR rfl ?_
    refine Run.fin rfl (EndOk.go ?_); exact .t rfl
  · rintro i x r n h1 hi hd hinv ih
    have hc := hrec x (List.mem_of_getElem? h1)
    unfold SizeC at hc
    refine fR rfl ?_
    refine lM rfl rfl rfl ?_
    refine fM rfl ?_
    refine Run.condT rfl rfl (by simp; omega) ?_
    refine fR rfl ?_
    refine Mid.elemMapC (Val.enc_eq x) rfl rfl rfl h1 rfl rfl ?_
    refine fM rfl ?_
    refine Mid.call (hc) rfl rfl rfl rfl ?_
    refine p0 rfl ?_
    refine fM rfl ?_
    refine aL rfl rfl rfl rfl rfl ?_
    refine fM rfl ?_
    exact rWeak 1 rfl (ih (IntKind.i64.wrap (n + szV x)) (by rw [hinv]; simp only [szL])) rfl rfl rfl
theorem size_ok' (H : Pr18 P) : ∀ (k : Nat) (v : Val), SizeOf.sizeOf v ≤ k → v.Ok → SizeC P v
  | 0, v, h, _ => by cases v; simp at h
  | k + 1, v, h, hv => size_step H v hv fun x hx => size_ok' H k x (by have := Val.size_items v hx; omega) (hv.it x hx)
theorem size_ok (H : Pr18 P) (v : Val) (hv : v.Ok) : FnOk P 58 [v.v] ⟨[], 0⟩ { v := .t (.int .i64 (szV v)) } := size_ok' H _ v (Nat.le_refl _) hv
def argW (most : Int) : Int → List Arg → Int
  | n, [] => n
  | n, a :: r => if n ≤ most then argW most (IntKind.i64.wrap (n + szV a.val)) r else n
mutual
def selW (most n : Int) : Sel → Int
  | .mk _ _ _ _ ar ds ss => IntKind.i64.wrap (argW most (IntKind.i64.wrap (IntKind.i64.wrap (IntKind.i64.wrap (n + 1) + ar.length) + ds.length)) ar + selsW (IntKind.i64.wrap (most - argW most (IntKind.i64.wrap (IntKind.i64.wrap (IntKind.i64.wrap (n + 1) + ar.length) + ds.length)) ar)) 0 ss)
def selsW (most n : Int) : List Sel → Int
  | [] => n
  | x :: r => if n ≤ most then selsW most (selW most n x) r else n
end
theorem selW_eq (most n : Int) (s : Sel) : selW most n s = IntKind.i64.wrap (argW most (IntKind.i64.wrap (IntKind.i64.wrap (IntKind.i64.wrap (n + 1) + s.args.length) + s.dirs.length)) s.args + selsW (IntKind.i64.wrap (most - argW most (IntKind.i64.wrap (IntKind.i64.wrap (IntKind.i64.wrap (n + 1) + s.args.length) + s.dirs.length)) s.args)) 0 s.sels) := by cases s; rfl
def WeighC (P : Program) (l : List Sel) : Prop := ∀ most : Int, FnOk P 39 [.t (.lst (l.map Sel.enc)), .t (.int .i64 most)] ⟨[], 0⟩ { v := .t (.int .i64 (selsW most 0 l)) }
theorem weigh_step (H : Pr18 P) (l : List Sel) (hll : l.length ≤ 140737488355328) (hok : ∀ x, x ∈ l → x.Ok) (hrec : ∀ x, x ∈ l → WeighC P x.sels) : WeighC P l := by
  intro most
  refine FnOk.run H.i39 H.mixed rfl rfl ?_
  refine fR rfl ?_
  refine rList l (fun i (n : Int) => { env := [(0, .t (.lst (l.map Sel.enc))), (1, .t (.int .i64 most)), (5, .t (.int .i64 n)), (6, .t (.int .i64 i))], s := ⟨[], 0⟩ }) (fun r i n => selsW most 0 l = selsW most n r) 0 (0 : Int) rfl rfl rfl rfl rfl ?_ ?_
  · rintro n hinv
    rw [hinv]
    refine fR rfl ?_
    refine lM rfl rfl rfl ?_
    refine fM rfl ?_
    refine Run.condF rfl rfl (by simp) ?_
    refine fR rfl ?_
    refine Run.fin rfl (EndOk.go ?_); exact .t rfl
  · rintro i x r n h1 hi hd hinv ih
    have hx := hok x (List.mem_of_getElem? h1)
    have hw := hrec x (List.mem_of_getElem? h1)
    have hal := hx.arl
    have hdl := hx.dl
    refine fR rfl ?_
    refine lM rfl rfl rfl ?_
    refine fM rfl ?_
    by_cases hm : n ≤ most
    · refine Run.condT rfl rfl (by simp [hm]; omega) ?_
      refine fR rfl ?_
      refine p0 rfl ?_
      refine fM rfl ?_
      refine Mid.elemMapC (Sel.enc_eq x) rfl rfl rfl h1 rfl rfl ?_
      refine fM rfl ?_
      refine lM rfl rfl rfl ?_
      refine p0 rfl ?_
      refine fM rfl ?_
      refine Mid.elemMapC (Sel.enc_eq x) rfl rfl rfl h1 rfl rfl ?_
      refine fM rfl ?_
      refine lM rfl rfl rfl ?_
      refine p0 rfl ?_
      refine fM rfl ?_
      have hsw := selW_eq most n x
      generalize hn1 : IntKind.i64.wrap (IntKind.i64.wrap (IntKind.i64.wrap (n + 1) + (x.args.length : Int)) + (x.dirs.length : Int)) = n1 at hsw
      refine rList x.args (fun j (q : Int) => { env := [(0, .t (.lst (l.map Sel.enc))), (1, .t (.int .i64 most)), (5, .t (.int .i64 q)), (6, .t (.int .i64 i)), (7, .t (.int .i64 j))], s := ⟨[], 0⟩ }) (fun ra j q => argW most n1 x.args = argW most q ra) 0 n1 rfl rfl rfl rfl rfl ?_ ?_
      · rintro q hq
        have hq' : argW most n1 x.args = q := hq
        rw [hq'] at hsw
        refine fR rfl ?_
        refine Mid.elemMapC (Sel.enc_eq x) rfl rfl rfl h1 rfl rfl ?_
        refine fM rfl ?_
        refine lM rfl rfl rfl ?_
        refine fM rfl ?_
        refine Run.condF rfl rfl (by simp) ?_
        refine fR rfl ?_
        refine Mid.elemMapC (Sel.enc_eq x) rfl rfl rfl h1 rfl rfl ?_
        refine fM rfl ?_
        refine p0 rfl ?_
        refine Mid.call (hw (IntKind.i64.wrap (most - q))) rfl rfl rfl rfl ?_
        refine p0 rfl ?_
        refine fM rfl ?_
        refine aL rfl rfl rfl rfl rfl ?_
        refine fM rfl ?_
        exact rWeak 0 rfl (ih (selW most n x) (by rw [hinv]; simp only [selsW, if_pos hm])) rfl rfl rfl (he := (by repeat' (first | exact trivial | exact LeX.t | exact LeX.top | exact LeX.nilOwn (Nat.le_of_ble_eq_true rfl) (Nat.le_of_ble_eq_true rfl) | exact LeX.ownT | exact LeX.nilT | exact LeX.same rfl | exact LeX.tEq (by simp[hsw]) | exact LeX.ownEq (by simp[hsw]) (Nat.le_of_ble_eq_true rfl) | exact LeX.tEq (by congr 1 <;> omega) | exact Or.inr ⟨Nat.le_of_ble_eq_true rfl, Nat.le_of_ble_eq_true rfl, rfl⟩ | refine Or.inl ⟨Nat.le_of_ble_eq_true rfl, _, rfl, ?_⟩ | refine LeO.cells ?_ | exact LeO.arr rfl | exact LeO.arr (by simp[hsw]) | exact LeO.mE (by first | rfl | simp[hsw]) (by first | exact Or.inl rfl | exact Or.inr rfl) | exact LeO.cE (by first | rfl | simp[hsw]) | exact LeXs.cE (by first | rfl | simp[hsw]) | refine LeO.map (by first | rfl | simp) ?_ (by first | exact Or.inl rfl | exact Or.inr rfl) | exact LeO.iter (by first | rfl | simp) (Nat.le_of_ble_eq_true rfl) | refine LeXs.cons ?_ ?_ | exact LeXs.nil | refine And.intro ?_ ?_))) (hs := (by repeat' (first | exact trivial | exact LeX.t | exact LeX.top | exact LeX.nilOwn (Nat.le_of_ble_eq_true rfl) (Nat.le_of_ble_eq_true rfl) | exact LeX.ownT | exact LeX.nilT | exact LeX.same rfl | exact LeX.tEq (by simp[hsw]) | exact LeX.ownEq (by simp[hsw]) (Nat.le_of_ble_eq_true rfl) | exact LeX.tEq (by congr 1 <;> omega) | exact Or.inr ⟨Nat.le_of_ble_eq_true rfl, Nat.le_of_ble_eq_true rfl, rfl⟩ | refine Or.inl ⟨Nat.le_of_ble_eq_true rfl, _, rfl, ?_⟩ | refine LeO.cells ?_ | exact LeO.arr rfl | exact LeO.arr (by simp[hsw]) | exact LeO.mE (by first | rfl | simp[hsw]) (by first | exact Or.inl rfl | exact Or.inr rfl) | exact LeO.cE (by first | rfl | simp[hsw]) | exact LeXs.cE (by first | rfl | simp[hsw]) | refine LeO.map (by first | rfl | simp) ?_ (by first | exact Or.inl rfl | exact Or.inr rfl) | exact LeO.iter (by first | rfl | simp) (Nat.le_of_ble_eq_true rfl) | refine LeXs.cons ?_ ?_ | exact LeXs.nil | refine And.intro ?_ ?_)))
      · rintro j a ra q g1 gi gd gq ihq
        have ha := (hx.ar a (List.mem_of_getElem? g1)).1
        refine fR rfl ?_
        refine Mid.elemMapC (Sel.enc_eq x) rfl rfl rfl h1 rfl rfl ?_
        refine fM rfl ?_
        refine lM rfl rfl rfl ?_
        refine fM rfl ?_
        by_cases hqm : q ≤ most
        · refine Run.condT rfl rfl (by simp [hqm]; omega) ?_
          refine fR rfl ?_
          refine Mid.elemMapC (Sel.enc_eq x) rfl rfl rfl h1 rfl rfl ?_
          refine fM rfl ?_
          refine Mid.elemMap rfl rfl rfl g1 rfl rfl ?_
          refine fM rfl ?_
          refine Mid.call (size_ok H a.val ha) rfl rfl rfl rfl ?_
          refine p0 rfl ?_
          refine fM rfl ?_
          refine aL rfl rfl rfl rfl rfl ?_
          refine fM rfl ?_
          exact rWeak 0 rfl (ihq (IntKind.i64.wrap (q + szV a.val)) (by rw [gq]; simp only [argW, if_pos hqm])) rfl rfl rfl
        · have hq' : argW most n1 x.args = q := by rw [gq]; simp only [argW, if_neg hqm]
          rw [hq'] at hsw
          refine Run.condF rfl rfl (by simp; omega) ?_
          refine fR rfl ?_
          refine Mid.elemMapC (Sel.enc_eq x) rfl rfl rfl h1 rfl rfl ?_
          refine fM rfl ?_
          refine p0 rfl ?_
          refine Mid.call (hw (IntKind.i64.wrap (most - q))) rfl rfl rfl rfl ?_
          refine p0 rfl ?_
          refine fM rfl ?_
          refine aL rfl rfl rfl rfl rfl ?_
          refine fM rfl ?_
          exact rWeak 0 rfl (ih (selW most n x) (by rw [hinv]; simp only [selsW, if_pos hm])) rfl rfl rfl (he := (by repeat' (first | exact trivial | exact LeX.t | exact LeX.top | exact LeX.nilOwn (Nat.le_of_ble_eq_true rfl) (Nat.le_of_ble_eq_true rfl) | exact LeX.ownT | exact LeX.nilT | exact LeX.same rfl | exact LeX.tEq (by simp[hsw]) | exact LeX.ownEq (by simp[hsw]) (Nat.le_of_ble_eq_true rfl) | exact LeX.tEq (by congr 1 <;> omega) | exact Or.inr ⟨Nat.le_of_ble_eq_true rfl, Nat.le_of_ble_eq_true rfl, rfl⟩ | refine Or.inl ⟨Nat.le_of_ble_eq_true rfl, _, rfl, ?_⟩ | refine LeO.cells ?_ | exact LeO.arr rfl | exact LeO.arr (by simp[hsw]) | exact LeO.mE (by first | rfl | simp[hsw]) (by first | exact Or.inl rfl | exact Or.inr rfl) | exact LeO.cE (by first | rfl | simp[hsw]) | exact LeXs.cE (by first | rfl | simp[hsw]) | refine LeO.map (by first | rfl | simp) ?_ (by first | exact Or.inl rfl | exact Or.inr rfl) | exact LeO.iter (by first | rfl | simp) (Nat.le_of_ble_eq_true rfl) | refine LeXs.cons ?_ ?_ | exact LeXs.nil | refine And.intro ?_ ?_))) (hs := (by repeat' (first | exact trivial | exact LeX.t | exact LeX.top | exact LeX.nilOwn (Nat.le_of_ble_eq_true rfl) (Nat.le_of_ble_eq_true rfl) | exact LeX.ownT | exact LeX.nilT | exact LeX.same rfl | exact LeX.tEq (by simp[hsw]) | exact LeX.ownEq (by simp[hsw]) (Nat.le_of_ble_eq_true rfl) | exact LeX.tEq (by congr 1 <;> omega) | exact Or.inr ⟨Nat.le_of_ble_eq_true rfl, Nat.le_of_ble_eq_true rfl, rfl⟩ | refine Or.inl ⟨Nat.le_of_ble_eq_true rfl, _, rfl, ?_⟩ | refine LeO.cells ?_ | exact LeO.arr rfl | exact LeO.arr (by simp[hsw]) | exact LeO.mE (by first | rfl | simp[hsw]) (by first | exact Or.inl rfl | exact Or.inr rfl) | exact LeO.cE (by first | rfl | simp[hsw]) | exact LeXs.cE (by first | rfl | simp[hsw]) | refine LeO.map (by first | rfl | simp) ?_ (by first | exact Or.inl rfl | exact Or.inr rfl) | exact LeO.iter (by first | rfl | simp) (Nat.le_of_ble_eq_true rfl) | refine LeXs.cons ?_ ?_ | exact LeXs.nil | refine And.intro ?_ ?_)))
    · refine Run.condF rfl rfl (by simp; omega) ?_
      refine fR rfl ?_
      refine Run.fin rfl (EndOk.go ?_); exact .t (by rw [hinv]; simp only [selsW, if_neg hm])
theorem weigh_ok' (H : Pr18 P) : ∀ (k : Nat) (l : List Sel), SizeOf.sizeOf l ≤ k → l.length ≤ 140737488355328 → (∀ x, x ∈ l → x.Ok) → WeighC P l
  | 0, l, h, _, _ => by cases l <;> simp at h
  | k + 1, l, h, hl, ho => weigh_step H l hl ho fun x hx => weigh_ok' H k x.sels (by have h1 := List.sizeOf_lt_of_mem hx; have h2 := Sel.size_sels x; omega) (by have := (ho x hx).sl; omega) (ho x hx).s
theorem weigh_ok (H : Pr18 P) (l : List Sel) (hl : l.length ≤ 140737488355328) (ho : ∀ x, x ∈ l → x.Ok) (most : Int) : FnOk P 39 [.t (.lst (l.map Sel.enc)), .t (.int .i64 most)] ⟨[], 0⟩ { v := .t (.int .i64 (selsW most 0 l)) } := weigh_ok' H _ l (Nat.le_refl _) hl ho most
def opsW : Int → List Op → Int
  | n, [] => n
  | n, x :: r => if n ≤ 600 then opsW (IntKind.i64.wrap (IntKind.i64.wrap (n + x.vars.length) + selsW 600 0 x.sels)) r else n
def frsW : Int → List Frag → Int
  | n, [] => n
  | n, x :: r => if n ≤ 600 then frsW (IntKind.i64.wrap (n + selsW 600 0 x.sels)) r else n
def bigF (q : Query) : Bool := decide (frsW (opsW ((q.ops.length + q.frags.length : Nat) : Int) q.ops) q.frags > 600)
theorem big_ok (H : Pr18 P) (q : Query) (hq : q.Ok) : FnOk P 27 [q.v] ⟨[], 0⟩ { v := .t (.bool (bigF q)) } := by
  have hol := hq.ol
  have hfl := hq.fl
  unfold bigF
  refine FnOk.run H.i27 H.mixed rfl rfl ?_
  refine fR rfl ?_
  refine lM rfl rfl rfl ?_
  refine fM rfl ?_
  refine lM rfl rfl rfl ?_
  refine aN rfl rfl rfl ?_
  refine fM rfl ?_
  refine rList q.ops (fun i (n : Int) => { env := [(1, .ptr 0 0), (3, .t (.int .i64 n)), (4, .t (.int .i64 i))], s := ⟨[(0, .cells [.t (.lst (q.ops.map Op.enc)), .t (.lst (q.frags.map Frag.enc))])], 1⟩ }) (fun r i n => opsW ((q.ops.length + q.frags.length : Nat) : Int) q.ops = opsW n r) 1 ((q.ops.length + q.frags.length : Nat) : Int) rfl rfl rfl rfl rfl ?_ ?_
  · rintro n hn0
    have hn0 : opsW ((q.ops.length + q.frags.length : Nat) : Int) q.ops = n := hn0
    refine fR rfl ?_
    refine lM rfl rfl rfl ?_
    refine fM rfl ?_
    refine Run.condF rfl rfl (by simp) ?_
    refine fR rfl ?_
    refine rList q.frags (fun i (n : Int) => { env := [(1, .ptr 0 0), (3, .t (.int .i64 n)), (5, .t (.int .i64 i))], s := ⟨[(0, .cells [.t (.lst (q.ops.map Op.enc)), .t (.lst (q.frags.map Frag.enc))])], 1⟩ }) (fun r i n => frsW (opsW ((q.ops.length + q.frags.length : Nat) : Int) q.ops) q.frags = frsW n r) 1 n rfl (by rw [hn0]) rfl rfl rfl ?_ ?_
    · rintro n hinv
      have e : frsW (opsW ((q.ops.length + q.frags.length : Nat) : Int) q.ops) q.frags = n := hinv
      rw [e]
      refine fR rfl ?_
      refine lM rfl rfl rfl ?_
      refine fM rfl ?_
      refine Run.condF rfl rfl (by simp) ?_
      refine fR rfl ?_
      refine Run.fin rfl (EndOk.go ?_); exact .t rfl
    · rintro i x r n h1 hi hd hinv ih
      have hx := hq.f x (List.mem_of_getElem? h1)
      have hxs := hx.s.1
      refine fR rfl ?_
      refine lM rfl rfl rfl ?_
      refine fM rfl ?_
      by_cases hm : n ≤ 600
      · refine Run.condT rfl rfl (by simp [hm]; omega) ?_
        refine fR rfl ?_
        refine Mid.elemMap rfl rfl rfl h1 rfl rfl ?_
        refine fM rfl ?_
        refine Mid.call (weigh_ok H x.sels (by omega) hx.s.2 600) rfl rfl rfl rfl ?_
        refine p0 rfl ?_
        refine fM rfl ?_
        refine aL rfl rfl rfl rfl rfl ?_
        refine fM rfl ?_
        exact rWeak 1 rfl (ih (IntKind.i64.wrap (n + selsW 600 0 x.sels)) (by rw [hinv]; simp only [frsW, if_pos hm])) rfl rfl rfl
      · have e : frsW (opsW ((q.ops.length + q.frags.length : Nat) : Int) q.ops) q.frags = n := by rw [hinv]; simp only [frsW, if_neg hm]
        rw [e]
        refine Run.condF rfl rfl (by simp; omega) ?_
        refine fR rfl ?_
        refine Run.fin rfl (EndOk.go ?_); exact .t rfl
  · rintro i x r n h1 hi hd hinv ih
    have hx := hq.o x (List.mem_of_getElem? h1)
    have hxv := hx.vl
    have hxs := hx.s.1
    refine fR rfl ?_
    refine lM rfl rfl rfl ?_
    refine fM rfl ?_
    by_cases hm : n ≤ 600
    · refine Run.condT rfl rfl (by simp [hm]; omega) ?_
      refine fR rfl ?_
      refine Mid.elemMap rfl rfl rfl h1 rfl rfl ?_
      refine fM rfl ?_
      refine lM rfl rfl rfl ?_
      refine p0 rfl ?_
      refine fM rfl ?_
      refine Mid.elemMap rfl rfl rfl h1 rfl rfl ?_
      refine fM rfl ?_
      refine Mid.call (weigh_ok H x.sels (by omega) hx.s.2 600) rfl rfl rfl rfl ?_
      refine p0 rfl ?_
      refine fM rfl ?_
      refine aL rfl rfl rfl rfl rfl ?_
      refine fM rfl ?_
      exact rWeak 1 rfl (ih (IntKind.i64.wrap (IntKind.i64.wrap (n + x.vars.length) + selsW 600 0 x.sels)) (by rw [hinv]; simp only [opsW, if_pos hm])) rfl rfl rfl
    · have hn0 : opsW ((q.ops.length + q.frags.length : Nat) : Int) q.ops = n := by rw [hinv]; simp only [opsW, if_neg hm]
      refine Run.condF rfl rfl (by simp; omega) ?_
      refine fR rfl ?_
      refine rList q.frags (fun i (n : Int) => { env := [(1, .ptr 0 0), (3, .t (.int .i64 n)), (5, .t (.int .i64 i))], s := ⟨[(0, .cells [.t (.lst (q.ops.map Op.enc)), .t (.lst (q.frags.map Frag.enc))])], 1⟩ }) (fun r i n => frsW (opsW ((q.ops.length + q.frags.length : Nat) : Int) q.ops) q.frags = frsW n r) 1 n rfl (by rw [hn0]) rfl rfl rfl ?_ ?_
      · rintro n hinv
        have e : frsW (opsW ((q.ops.length + q.frags.length : Nat) : Int) q.ops) q.frags = n := hinv
        rw [e]
        refine fR rfl ?_
        refine lM rfl rfl rfl ?_
        refine fM rfl ?_
        refine Run.condF rfl rfl (by simp) ?_
        refine fR rfl ?_
        refine Run.fin rfl (EndOk.go ?_); exact .t rfl
      · rintro i x r n h1 hi hd hinv ih
        have hx := hq.f x (List.mem_of_getElem? h1)
        have hxs := hx.s.1
        refine fR rfl ?_
        refine lM rfl rfl rfl ?_
        refine fM rfl ?_
        by_cases hm : n ≤ 600
        · refine Run.condT rfl rfl (by simp [hm]; omega) ?_
          refine fR rfl ?_
          refine Mid.elemMap rfl rfl rfl h1 rfl rfl ?_
          refine fM rfl ?_
          refine Mid.call (weigh_ok H x.sels (by omega) hx.s.2 600) rfl rfl rfl rfl ?_
          refine p0 rfl ?_
          refine fM rfl ?_
          refine aL rfl rfl rfl rfl rfl ?_
          refine fM rfl ?_
          exact rWeak 1 rfl (ih (IntKind.i64.wrap (n + selsW 600 0 x.sels)) (by rw [hinv]; simp only [frsW, if_pos hm])) rfl rfl rfl
        · have e : frsW (opsW ((q.ops.length + q.frags.length : Nat) : Int) q.ops) q.frags = n := by rw [hinv]; simp only [frsW, if_neg hm]
          rw [e]
          refine Run.condF rfl rfl (by simp; omega) ?_
          refine fR rfl ?_
          refine Run.fin rfl (EndOk.go ?_); exact .t rfl
end Go.GB.C18

