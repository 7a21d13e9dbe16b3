/-
  YtkhekeacdnhkpaaP6: lemmas of this proof (part 6). No conditions.
-/
import Derived.Test.YtkhekeacdnhkpaaP5
import Derived.KernelRfl
import Derived.Test.YtkhekeacdnhkpaaP2
import Derived.Carry
import Derived.Handed
import Derived.ChangeSame
import Derived.ProofKit
import Derived.OpenShut
import Derived.JoinedCond
import Derived.Deep.CondSized

/-
  D11C: contracts of chapter 11's functions: Possible of the program.
-/
namespace Go.GB.C11
open Go.GB
set_option linter.unusedSimpArgs false
set_option linter.unusedVariables false
set_option maxRecDepth 100000
set_option maxHeartbeats 2000000
variable {P : Program}

def bE (b : Bool) : T := .bool b
def hasK (M : List (Str × Bool)) (k : Str) : Bool := (kget k M).isSome
theorem hasK_kset (M : List (Str × Bool)) (x : Str) (k : Str) : hasK (kset x true M) k = (x == k || hasK M k) := by
  unfold hasK
  rw [kget_kset]
  by_cases h : k = x
  · subst h; simp
  · have h' : ¬ x = k := fun e => h e.symm
    simp [h, h']
/-- keys apart, all true -/
structure MOk (M : List (Str × Bool)) : Prop where
  nd : (M.map (·.1)).Nodup
  tr : ∀ e, e ∈ M → e.2 = true
theorem MOk.nil : MOk [] := ⟨by simp, by simp⟩
theorem kset_mem {M : List (Str × Bool)} {x : Str} {v : Bool} : ∀ {e : Str × Bool}, e ∈ kset x v M → e = (x, v) ∨ e ∈ M := by
  induction M with
  | nil => intro e h; simp [kset] at h; exact .inl h
  | cons a r ih =>
    intro e h
    simp only [kset] at h
    split at h
    · rcases List.mem_cons.1 h with h | h
      · exact .inl h
      · exact .inr (List.mem_cons_of_mem _ h)
    · rcases List.mem_cons.1 h with h | h
      · exact .inr (h ▸ List.mem_cons_self ..)
      · rcases ih h with h | h
        · exact .inl h
        · exact .inr (List.mem_cons_of_mem _ h)
theorem MOk.kset {M : List (Str × Bool)} (h : MOk M) (x : Str) : MOk (kset x true M) :=
  ⟨(kset_keys h.nd).1, fun e he => by rcases kset_mem he with rfl | he; rfl; exact h.tr e he⟩
theorem hasK_mem {M : List (Str × Bool)} {k : Str} (h : hasK M k = true) : ∃ e, e ∈ M ∧ e.1 = k := by
  unfold hasK at h
  induction M with
  | nil => simp [kget] at h
  | cons a r ih =>
    simp only [kget] at h
    split at h
    · rename_i e; exact ⟨a, List.mem_cons_self .., e.symm⟩
    · obtain ⟨e, h1, h2⟩ := ih h; exact ⟨e, List.mem_cons_of_mem _ h1, h2⟩
theorem MOk.get {M : List (Str × Bool)} (h : MOk M) (k : Str) : (kget k M).getD false = hasK M k := by
  have h2 := h.tr
  unfold hasK
  induction M with
  | nil => rfl
  | cons a r ih =>
    simp only [kget]
    split
    · simp [h2 a (List.mem_cons_self ..)]
    · exact ih ⟨(List.nodup_cons.1 (by simpa using h.nd)).2, fun e he => h2 e (List.mem_cons_of_mem _ he)⟩ fun e he => h2 e (List.mem_cons_of_mem _ he)

theorem kdrop_at {κ ν : Type} [DecidableEq κ] {e : κ × ν} : ∀ {l : List (κ × ν)} {i : Nat}, l[i]? = some e → (l.map (·.1)).Nodup → kdrop e.1 l = l.eraseIdx i
  | [], i, h, _ => by simp at h
  | w :: r, 0, h, hn => by simp at h; subst h; simp [kdrop]
  | w :: r, i + 1, h, hn => by
    simp only [List.map_cons, List.nodup_cons] at hn
    have h' : r[i]? = some e := by simpa using h
    have hne : ¬ e.1 = w.1 := fun heq => hn.1 (List.mem_map.2 ⟨e, List.mem_of_getElem? h', heq⟩)
    simp [kdrop, hne, kdrop_at h' hn.2]
theorem hasK_erase {M : List (Str × Bool)} (hM : MOk M) {e : Str × Bool} {i : Nat} (h : M[i]? = some e) (k : Str) : hasK (M.eraseIdx i) k = (hasK M k && !(k == e.1)) := by
  unfold hasK
  rw [← kdrop_at h hM.nd, kget_kdrop hM.nd]
  by_cases hk : k = e.1
  · simp [hk]
  · simp [hk]
theorem hasK_drop {M : List (Str × Bool)} (hM : MOk M) (x k : Str) : hasK (kdrop x M) k = (hasK M k && !(k == x)) := by
  unfold hasK
  rw [kget_kdrop hM.nd]
  by_cases hk : k = x
  · simp [hk]
  · simp [hk]
theorem kdrop_sub {M : List (Str × Bool)} (x : Str) : (kdrop x M).Sublist M := by
  induction M with
  | nil => exact List.Sublist.refl _
  | cons a r ih =>
    simp only [kdrop]
    split
    · exact List.sublist_cons_self ..
    · exact ih.cons_cons _
theorem MOk.sub {M M' : List (Str × Bool)} (h : MOk M) (hs : M'.Sublist M) : MOk M' :=
  ⟨h.nd.sublist (hs.map _), fun e he => h.tr e (hs.subset he)⟩
theorem nodup_at : ∀ {bs : List Nat} {i j s : Nat}, bs.Nodup → bs[i]? = some s → bs[j]? = some s → i = j
  | [], i, j, s, _, h, _ => by simp at h
  | b :: r, 0, 0, s, _, _, _ => rfl
  | b :: r, 0, j + 1, s, hn, h1, h2 => by
    simp at h1; subst h1
    exact absurd (List.mem_of_getElem? (by simpa using h2)) (List.nodup_cons.1 hn).1
  | b :: r, i + 1, 0, s, hn, h1, h2 => by
    simp at h2; subst h2
    exact absurd (List.mem_of_getElem? (by simpa using h1)) (List.nodup_cons.1 hn).1
  | b :: r, i + 1, j + 1, s, hn, h1, h2 => by
    exact congrArg (· + 1) (nodup_at (List.nodup_cons.1 hn).2 (by simpa using h1) (by simpa using h2))
/-- stamps that are still to come -/
def cntU (bs seen : List Nat) : Nat := bs.countP fun s => !decide (s ∈ seen)
theorem cntU_le (bs seen : List Nat) (s : Nat) : cntU bs (seen ++ [s]) ≤ cntU bs seen := by
  unfold cntU
  refine List.countP_mono_left fun x _ h => ?_
  simp at h ⊢; exact h.1
theorem cntU_lt {s : Nat} {seen : List Nat} (hs : s ∉ seen) : ∀ {bs : List Nat}, s ∈ bs → cntU bs (seen ++ [s]) < cntU bs seen
  | [], h => by cases h
  | b :: r, h => by
    have hle := cntU_le r seen s
    unfold cntU at hle ⊢
    simp only [List.countP_cons]
    rcases List.mem_cons.1 h with rfl | h
    · simp [hs]; simp at hle; omega
    · have ih := cntU_lt hs h
      unfold cntU at ih
      have : (if (!decide (b ∈ seen ++ [s])) = true then 1 else 0) ≤ (if (!decide (b ∈ seen)) = true then 1 else 0) := by
        by_cases hb : b ∈ seen
        · simp [hb]
        · by_cases hbs : b = s <;> simp [hb, hbs]
      omega
theorem cntU_erase (bs seen : List Nat) (i : Nat) : cntU (bs.eraseIdx i) seen ≤ cntU bs seen := (List.eraseIdx_sublist ..).countP_le
theorem zip_erase {α β : Type} : ∀ (l : List α) (r : List β) (i : Nat), (l.eraseIdx i).zip (r.eraseIdx i) = (l.zip r).eraseIdx i
  | [], r, i => by simp
  | a :: l, [], i => by cases i <;> simp
  | a :: l, b :: r, 0 => by simp
  | a :: l, b :: r, i + 1 => by simp [zip_erase l r i]

/-- what the loop along the map keeps -/
structure Lp (M : List (Str × Bool)) (bad : Str → Bool) (b : List (Str × Bool) × List Nat × List Nat) : Prop where
  ok : MOk b.1
  len : b.2.1.length = b.1.length
  nd : b.2.1.Nodup
  i1 : ∀ k, hasK b.1 k = true → hasK M k = true
  i2 : ∀ k, hasK M k = true → bad k = false → hasK b.1 k = true
  i3 : ∀ p, p ∈ b.1.zip b.2.1 → p.2 ∈ b.2.2 → bad p.1.1 = false
theorem Lp.keep {M : List (Str × Bool)} {bad : Str → Bool} {L : List (Str × Bool)} {bs seen : List Nat} (h : Lp M bad (L, bs, seen)) {i s : Nat} {e : Str × Bool} (he : L[i]? = some e) (hs : bs[i]? = some s) (hb : bad e.1 = false) : Lp M bad (L, bs, seen ++ [s]) := by
  refine ⟨h.ok, h.len, h.nd, h.i1, h.i2, fun p hp hps => ?_⟩
  rcases List.mem_append.1 hps with hps | hps
  · exact h.i3 p hp hps
  · simp at hps
    obtain ⟨j, hj⟩ := List.mem_iff_getElem?.1 hp
    obtain ⟨h1, h2⟩ := List.getElem?_zip_eq_some.1 hj
    rw [hps] at h2
    have := nodup_at h.nd hs h2
    subst this
    simp only at h1
    rw [he] at h1; simp at h1; rw [← h1]; exact hb
theorem Lp.drop {M : List (Str × Bool)} {bad : Str → Bool} {L : List (Str × Bool)} {bs seen : List Nat} (h : Lp M bad (L, bs, seen)) {i s : Nat} {e : Str × Bool} (he : L[i]? = some e) (hs : bs[i]? = some s) (hb : bad e.1 = true) : Lp M bad (L.eraseIdx i, bs.eraseIdx i, seen ++ [s]) := by
  have hlen : bs.length = L.length := h.len
  have hok : MOk L := h.ok
  refine ⟨hok.sub (List.eraseIdx_sublist ..), by show (bs.eraseIdx i).length = (L.eraseIdx i).length; rw [List.length_eraseIdx, List.length_eraseIdx, hlen], List.Nodup.sublist (List.eraseIdx_sublist ..) h.nd, fun k hk => ?_, fun k hk hkb => ?_, fun p hp hps => ?_⟩
  · have hk' : hasK (L.eraseIdx i) k = true := hk
    rw [hasK_erase hok he] at hk'
    simp at hk'
    exact h.i1 k hk'.1
  · show hasK (L.eraseIdx i) k = true
    rw [hasK_erase hok he]
    have h1 := h.i2 k hk hkb
    have hne : ¬ k = e.1 := by rintro rfl; rw [hb] at hkb; cases hkb
    simp [hne]; exact h1
  · have hp' : p ∈ (L.zip bs).eraseIdx i := by rw [← zip_erase]; exact hp
    have hpm : p ∈ L.zip bs := (List.eraseIdx_sublist ..).subset hp'
    rcases List.mem_append.1 hps with hps | hps
    · exact h.i3 p hpm hps
    · exfalso
      simp at hps
      have hz : (bs.eraseIdx i) = ((L.zip bs).eraseIdx i).map (·.2) := by
        rw [← zip_erase]
        rw [List.map_snd_zip (by rw [List.length_eraseIdx, List.length_eraseIdx, hlen]; exact Nat.le_refl _)]
      have hmem : s ∈ bs.eraseIdx i := by rw [hz, ← hps]; exact List.mem_map.2 ⟨p, hp', rfl⟩
      obtain ⟨j, hj⟩ := List.mem_iff_getElem?.1 hmem
      rw [List.getElem?_eraseIdx] at hj
      split at hj
      · have := nodup_at h.nd hs hj; omega
      · have := nodup_at h.nd hs hj; omega
theorem Lp.last {M : List (Str × Bool)} {bad : Str → Bool} {L : List (Str × Bool)} {bs seen : List Nat} (h : Lp M bad (L, bs, seen)) (hall : ∀ s, s ∈ bs → s ∈ seen) (k : Str) : hasK L k = (hasK M k && !(bad k)) := by
  have hlen : bs.length = L.length := h.len
  by_cases hk : hasK L k = true
  · obtain ⟨e, he, rfl⟩ := hasK_mem hk
    obtain ⟨i, hi⟩ := List.mem_iff_getElem?.1 he
    have hil : i < bs.length := by rw [hlen]; exact (List.getElem?_eq_some_iff.1 hi).1
    have hz : (L.zip bs)[i]? = some (e, bs[i]) := List.getElem?_zip_eq_some.2 ⟨hi, by simp [hil]⟩
    have := h.i3 (e, bs[i]) (List.mem_of_getElem? hz) (hall _ (by simp))
    have h1 := h.i1 e.1 hk
    simp only at this
    rw [hk, h1, this]; rfl
  · have hk' : hasK L k = false := by simpa using hk
    rw [hk']
    by_cases h1 : hasK M k = true
    · by_cases h2 : bad k = false
      · exact absurd (h.i2 k h1 h2) hk
      · have : bad k = true := by simpa using h2
        simp [this]
    · have : hasK M k = false := by simpa using h1
      simp [this]
end Go.GB.C11


/-
  D11D: contracts of chapter 11's functions: Possible of the program.
-/
namespace Go.GB.C11
open Go.GB
set_option linter.unusedSimpArgs false
set_option linter.unusedVariables false
set_option maxRecDepth 100000
set_option maxHeartbeats 2000000
variable {P : Program}

theorem str_comm (a b : Str) : (a == b) = (b == a) := by
  rw [Bool.eq_iff_iff]; simp only [beq_iff_eq]; exact eq_comm
/-- the names that Possible looks at -/
def initB (t : Def) (nm : Str) (ds : List Def) (k : Str) : Bool :=
  (t.kind == 1 && nm == k) || (t.kind == 2 && ds.any (fun x => decide (nm ∈ x.implements) && x.name == k)) || (t.kind == 3 && memF t.members k)
/-- the names that it leaves out -/
def badB (t : Def) (nm : Str) (ds : List Def) (k : Str) : Bool :=
  !(findDef k ds).isSome || ((findDef k ds).getD Def.zero).kind != 1 || (t.kind == 2 && !(decide (nm ∈ ((findDef k ds).getD Def.zero).implements)))
theorem find_first : ∀ {ds : List Def} {i : Nat} {x : Def}, ds[i]? = some x → firstF (ds.take i) x.name = true → findDef x.name ds = some x
  | [], i, x, h, _ => by simp at h
  | y :: r, 0, x, h, _ => by simp at h; subst h; simp [findDef]
  | y :: r, i + 1, x, h, hf => by
    have hne : ¬ (y.name == x.name) = true := by
      intro e; simp [firstF, e] at hf
    simp only [findDef]; rw [if_neg hne]
    refine find_first (i := i) (by simpa using h) ?_
    simp only [firstF, List.take_succ_cons, List.any_cons] at hf ⊢
    have : (y.name == x.name) = false := by simpa using hne
    rw [this, Bool.false_or] at hf; exact hf
theorem good_eq {ds : List Def} {t : Def} {nm : Str} {i : Nat} {x : Def} (h : ds[i]? = some x) (hf : firstF (ds.take i) x.name = true) : (initB t nm ds x.name && !(badB t nm ds x.name)) = (x.kind == 1 && isP t nm x) := by
  have e := find_first h hf
  have hm : x ∈ ds := List.mem_of_getElem? h
  unfold badB initB isP
  rw [e]
  simp only [Option.isSome_some, Option.getD_some, Bool.not_true, Bool.false_or, bne_b]
  by_cases h2 : t.kind = 2
  · have h1 : ¬ t.kind = 1 := by omega
    have h3 : ¬ t.kind = 3 := by omega
    by_cases hx : nm ∈ x.implements
    · have : (ds.any fun y => decide (nm ∈ y.implements) && y.name == x.name) = true := List.any_eq_true.2 ⟨x, hm, by simp [hx]⟩
      simp [h2, hx, this]
    · simp [h2, hx]
  · have e1 : (nm == x.name) = (x.name == nm) := str_comm _ _
    have h2' : (t.kind == 2) = false := by simpa using h2
    simp only [h2', e1, Bool.false_and, Bool.or_false, Bool.and_comm]
    cases (t.kind == 1 && x.name == nm) <;> cases (t.kind == 3 && memF t.members x.name) <;> cases (x.kind == 1) <;> rfl
theorem posL_zero (nm : Str) : ∀ (r pre : List Def), posL Def.zero nm pre r = []
  | [], pre => rfl
  | o :: r, pre => by
    have : isP Def.zero nm o = false := rfl
    simp only [posL, this, Bool.and_false, Bool.false_eq_true, if_false]
    exact posL_zero nm r _
theorem posF_eq (ds : List Def) (nm : Str) : posF ds nm = posL ((findDef nm ds).getD Def.zero) nm [] ds := by
  unfold posF
  cases findDef nm ds with
  | none => simp [posL_zero]
  | some t => rfl
theorem firstF_snoc (l : List Def) (x : Def) (k : Str) : firstF (l ++ [x]) k = (firstF l k && !(x.name == k)) := by
  simp [firstF, List.any_append, Bool.not_or]

theorem possible_ok (H : Pr P) (ds : List Def) (hD : DocOk ds) (nm : Str) : FnOk P 46 [docV ds, .t (.str nm)] ⟨[], 0⟩ { v := .t (.lst ((posF ds nm).map sE)) } := by
  have hl := hD.l
  have hlb := hD.lb
  have hT := docFind hD nm
  have hpos := posF_eq ds nm
  refine FnOk.run H.i46 H.mixed rfl rfl ?_
  refine fR rfl ?_
  refine Mid.call (find_ok H ds hl nm) rfl rfl rfl rfl ?_
  refine fM rfl ?_
  generalize (findDef nm ds).getD Def.zero = t at hT hpos
  have tail : ∀ M : List (Str × Bool), MOk M → (∀ k, hasK M k = initB t nm ds k) → Run P n46 (⟨[], 0⟩ : S).nxt (EndOk ⟨[], 0⟩ { v := .t (.lst ((posF ds nm).map sE)) } r46 AExit.ret)
      [It.c (.region false [⟨some 60, none, .mv (.s 7)⟩, ⟨some 61, none, .mrange (.s 60)⟩] [] [1, 2, 5, 7, 61]), It.c c46_23, It.c c46_13]
      { env := [(1, .t (.str nm)), (2, .ptr 0 0), (5, .ptr 1 0), (7, .mp 2)], s := ⟨[(0, .cells [.t (.lst (ds.map Def.enc))]), (1, .cells [.t (.int .i64 t.kind), .t (.str t.name), .t (.lst (t.implements.map sE)), .t (.lst (t.dirs.map Dir.enc)), .t (.lst (t.fields.map Field.enc)), .t (.lst (t.members.map Member.enc)), .t (.lst (t.inputs.map Input.enc))]), (2, .map false (mE sE bE M) none)], 3⟩ } := by
    intro M hM hMk
    refine Run.learn (q := 2) rfl rfl (fun cl bs hbl hbn hblt => ?_)
    refine fR rfl ?_
    refine Mid.mrangeT rfl rfl rfl ?_
    refine Mid.done0 rfl ?_
    refine rLoopM (β := List (Str × Bool) × List Nat × List Nat) (fun b => { env := [(1, .t (.str nm)), (2, .ptr 0 0), (5, .ptr 1 0), (7, .mp 2), (61, .ptr 3 0)], s := ⟨[(0, .cells [.t (.lst (ds.map Def.enc))]), (1, .cells [.t (.int .i64 t.kind), .t (.str t.name), .t (.lst (t.implements.map sE)), .t (.lst (t.dirs.map Dir.enc)), .t (.lst (t.fields.map Field.enc)), .t (.lst (t.members.map Member.enc)), .t (.lst (t.inputs.map Input.enc))]), (2, .map false (mE sE bE b.1) (some (cl, b.2.1))), (3, .iter 2 cl b.2.2 cl)], 4⟩ })
      (Lp M (badB t nm ds)) (fun b => cntU b.2.1 b.2.2) 4 (M, bs, []) rfl ⟨hM, by simpa [mE] using hbl, hbn, fun _ h => h, fun _ h _ => h, fun p hp h => by cases h⟩ rfl rfl rfl ?_
    rintro ⟨L, bs', seen⟩ hinv ih
    refine Run.nxt rfl rfl rfl rfl rfl (fun hall => ?_) (fun i e s he hs hns => ?_)
    · have hG := hinv.last hall
      have hLok : MOk L := hinv.ok
      refine fM rfl ?_
      refine Run.condF rfl rfl rfl ?_
      refine fR rfl ?_
      refine lM rfl rfl rfl ?_
      refine fM rfl ?_
      refine rList ds (fun i (B : List Str × List (Str × Bool)) => { env := [(7, .mp 2), (15, .own 4 1 (B.1.map sE)), (93, .t (.lst (ds.map Def.enc))), (94, .t (.int .i64 ds.length)), (95, .t (.int .i64 i))], s := ⟨[(2, .map false (mE sE bE B.2) none), (4, .arr B.1.length)], 5⟩ }) (fun r i B => B.1.length ≤ i ∧ MOk B.2 ∧ (∀ k, hasK B.2 k = (hasK L k && firstF (ds.take i) k)) ∧ posF ds nm = B.1 ++ posL t nm (ds.take i) r) 4 ([], L) rfl ⟨by simp, hLok, by intro k; simp [firstF], by rw [hpos]; simp⟩ rfl rfl rfl ?_ ?_
      · rintro ⟨B, N⟩ ⟨_, _, _, hB⟩
        obtain rfl : B = posF ds nm := by rw [hB]; simp [posL]
        refine fR rfl ?_
        refine Run.condF rfl rfl (by simp) ?_
        refine fR rfl ?_
        refine Run.fin rfl (EndOk.go ?_); exact .own rfl
      · rintro i x r ⟨B, N⟩ h1 hi hd ⟨hBl, hN, hNk, hB⟩ ih2
        have hBl' : B.length ≤ i := hBl
        have hNok : MOk N := hN
        have htk : ds.take i ++ [x] = ds.take (i + 1) := by rw [List.take_add_one, h1]; rfl
        have hx := hNk x.name
        refine fR rfl ?_
        refine Run.condT rfl rfl (by simp; omega) ?_
        refine fR rfl ?_
        refine Mid.elemMap rfl rfl rfl h1 rfl rfl ?_
        refine fM rfl ?_
        refine Mid.lookT (x.name) rfl rfl rfl rfl rfl (sE_ok) rfl ?_
        refine fM rfl ?_
        rw [hNok.get]
        refine Run.cond rfl rfl (fun hc => ?_) (fun hc => ?_)
        · have hc2 : hasK L x.name = true ∧ firstF (ds.take i) x.name = true := by
            have : hasK N x.name = true := hc
            rw [this] at hx; simpa using hx.symm
          have hg : (x.kind == 1 && isP t nm x) = true := by rw [← good_eq h1 hc2.2, ← hMk, ← hG]; exact hc2.1
          have hsel : (x.kind == 1 && firstF (ds.take i) x.name && isP t nm x) = true := by
            rw [hc2.2, Bool.and_true]; exact hg
          refine fR rfl ?_
          refine apM sE B [x.name] rfl rfl rfl rfl rfl ?_
          refine fM rfl ?_
          refine Mid.delT x.name rfl rfl rfl sE_ok rfl ?_
          refine fM rfl ?_
          refine aL rfl rfl rfl rfl rfl ?_
          refine fM rfl ?_
          exact rWeak 5 rfl (ih2 (B ++ [x.name], kdrop x.name N) ⟨by simp; omega, hNok.sub (kdrop_sub _), by
            intro k
            show hasK (kdrop x.name N) k = _
            rw [hasK_drop hNok, show hasK N k = _ from hNk k, ← htk, firstF_snoc]
            rw [str_comm k x.name, Bool.and_assoc], by rw [hB]; simp only [posL]; rw [if_pos hsel, htk]; simp⟩) rfl rfl rfl
        · have hcN : hasK N x.name = false := hc
          have hsel : ¬ (x.kind == 1 && firstF (ds.take i) x.name && isP t nm x) = true := by
            intro hs
            simp only [Bool.and_eq_true] at hs
            have hg : (x.kind == 1 && isP t nm x) = true := by rw [hs.1.1, hs.2]; rfl
            rw [← good_eq h1 hs.1.2, ← hMk, ← hG] at hg
            rw [hcN, hg, hs.1.2] at hx
            cases hx
          refine fR rfl ?_
          refine aL rfl rfl rfl rfl rfl ?_
          refine fM rfl ?_
          exact rWeak 5 rfl (ih2 (B, N) ⟨by omega, hNok, by
            intro k
            show hasK N k = _
            rw [show hasK N k = _ from hNk k, ← htk, firstF_snoc]
            by_cases e : x.name = k
            · subst e
              rw [show hasK N x.name = _ from hNk x.name] at hcN
              rw [hcN]; simp
            · have e' : (x.name == k) = false := by simpa using e
              rw [e']; simp, by rw [hB]; simp only [posL]; rw [if_neg hsel, htk]⟩) rfl rfl rfl
    · have hbn' : bs'.Nodup := hinv.nd
      have hLok : MOk L := hinv.ok
      have hsm : s ∈ bs' := List.mem_of_getElem? hs
      have hO := docFind hD e.1
      have hil := hO.il
      have hlt : cntU bs' (seen ++ [s]) < cntU bs' seen := cntU_lt hns hsm
      refine fM rfl ?_
      refine Run.condT rfl rfl rfl ?_
      refine fR rfl ?_
      refine Mid.ientT (i := i) (z := s) rfl rfl rfl (by simp) he hs hbn' rfl ?_
      refine fM rfl ?_
      refine Mid.call (find_ok H ds hl e.1) rfl rfl rfl rfl ?_
      refine fM rfl ?_
      refine caG rfl rfl (fun hg => ⟨_, rfl, implements_ok H ((findDef e.1 ds).getD Def.zero) hO nm, rfl⟩) rfl rfl ?_
      refine fM rfl ?_
      refine Run.cond rfl rfl (fun hb => ?_) (fun hb => ?_)
      · have hb' : badB t nm ds e.1 = true := by simpa [badB, bne_b] using hb
        refine fR rfl ?_
        refine Mid.delI (i := i) rfl rfl he hLok.nd rfl sE_ok rfl ?_
        refine fM rfl ?_
        exact rWeak 4 rfl (ih (L.eraseIdx i, bs'.eraseIdx i, seen ++ [s]) (by have := cntU_erase bs' (seen ++ [s]) i; show cntU (bs'.eraseIdx i) (seen ++ [s]) < cntU bs' seen; omega) (hinv.drop he hs hb')) rfl rfl rfl
      · have hb' : badB t nm ds e.1 = false := by simpa [badB, bne_b] using hb
        skip
        exact rWeak 4 rfl (ih (L, bs', seen ++ [s]) hlt (hinv.keep he hs hb')) rfl rfl rfl
  refine Mid.mkmapT sE bE rfl ?_
  refine fM rfl ?_
  refine Run.cond rfl rfl (fun h1 => ?_) (fun h1 => ?_)
  · have h1' : t.kind = 1 := by simpa using h1
    refine fR rfl ?_
    refine Mid.mapT nm rfl rfl rfl rfl sE_ok rfl ?_
    refine Mid.done0 rfl ?_
    exact rWeakC 3 rfl (tail (kset nm true []) (MOk.nil.kset nm) (by intro k; rw [hasK_kset]; simp [initB, h1', hasK, kget])) rfl rfl rfl
  · have h1' : ¬ t.kind = 1 := by simpa using h1
    refine fR rfl ?_
    refine Run.cond rfl rfl (fun h2 => ?_) (fun h2 => ?_)
    · have h2' : t.kind = 2 := by simpa using h2
      refine fR rfl ?_
      refine lM rfl rfl rfl ?_
      refine fM rfl ?_
      refine rList ds (fun i (M : List (Str × Bool)) => { env := [(1, .t (.str nm)), (2, .ptr 0 0), (5, .ptr 1 0), (7, .mp 2), (34, .t (.lst (ds.map Def.enc))), (35, .t (.int .i64 ds.length)), (36, .t (.int .i64 i))], s := ⟨[(0, .cells [.t (.lst (ds.map Def.enc))]), (1, .cells [.t (.int .i64 t.kind), .t (.str t.name), .t (.lst (t.implements.map sE)), .t (.lst (t.dirs.map Dir.enc)), .t (.lst (t.fields.map Field.enc)), .t (.lst (t.members.map Member.enc)), .t (.lst (t.inputs.map Input.enc))]), (2, .map false (mE sE bE M) none)], 3⟩ }) (fun r i M => MOk M ∧ ∀ k, (hasK M k || r.any (fun x => decide (nm ∈ x.implements) && x.name == k)) = ds.any (fun x => decide (nm ∈ x.implements) && x.name == k)) 3 [] rfl ⟨MOk.nil, fun k => by simp [hasK, kget]⟩ rfl rfl rfl ?_ ?_
      · rintro M ⟨hM, hMk⟩
        refine fR rfl ?_
        refine Run.condF rfl rfl (by simp) ?_
        exact rWeakC 3 rfl (tail M hM (by intro k; have := hMk k; simp only [List.any_nil, Bool.or_false] at this; rw [this]; simp [initB, h2'])) rfl rfl rfl
      · rintro i x r M hx1 hi hd ⟨hM, hMk⟩ ih
        have hxo := hD.d x (List.mem_of_getElem? hx1)
        refine fR rfl ?_
        refine Run.condT rfl rfl (by simp; omega) ?_
        refine fR rfl ?_
        refine Mid.elemMap rfl rfl rfl hx1 rfl rfl ?_
        refine fM rfl ?_
        refine Mid.call (implements_ok H x hxo nm) rfl rfl rfl rfl ?_
        refine fM rfl ?_
        refine Run.cond rfl rfl (fun hc => ?_) (fun hc => ?_)
        · refine fR rfl ?_
          refine Mid.mapT (x.name) rfl rfl rfl rfl (sE_ok) rfl ?_
          refine fM rfl ?_
          refine aL rfl rfl rfl rfl rfl ?_
          refine fM rfl ?_
          exact rWeak 3 rfl (ih (kset x.name true M) ⟨hM.kset _, fun k => by
            rw [← hMk k, hasK_kset]
            have : decide (nm ∈ x.implements) = true := hc
            simp only [List.any_cons, this, Bool.true_and]
            cases (x.name == k) <;> cases (hasK M k) <;> simp⟩) rfl rfl rfl
        · refine fR rfl ?_
          refine aL rfl rfl rfl rfl rfl ?_
          refine fM rfl ?_
          exact rWeak 3 rfl (ih M ⟨hM, fun k => by
            rw [← hMk k]
            have : decide (nm ∈ x.implements) = false := hc
            simp only [List.any_cons, this, Bool.false_and, Bool.false_or]⟩) rfl rfl rfl
    · have h2' : ¬ t.kind = 2 := by simpa using h2
      refine fR rfl ?_
      refine Run.cond rfl rfl (fun h3 => ?_) (fun h3 => ?_)
      · have h3' : t.kind = 3 := by simpa using h3
        have hml := hT.ml
        refine fR rfl ?_
        refine lM rfl rfl rfl ?_
        refine fM rfl ?_
        refine rList t.members (fun i (M : List (Str × Bool)) => { env := [(1, .t (.str nm)), (2, .ptr 0 0), (5, .ptr 1 0), (7, .mp 2), (50, .t (.lst (t.members.map Member.enc))), (51, .t (.int .i64 t.members.length)), (52, .t (.int .i64 i))], s := ⟨[(0, .cells [.t (.lst (ds.map Def.enc))]), (1, .cells [.t (.int .i64 t.kind), .t (.str t.name), .t (.lst (t.implements.map sE)), .t (.lst (t.dirs.map Dir.enc)), .t (.lst (t.fields.map Field.enc)), .t (.lst (t.members.map Member.enc)), .t (.lst (t.inputs.map Input.enc))]), (2, .map false (mE sE bE M) none)], 3⟩ }) (fun r i M => MOk M ∧ ∀ k, (hasK M k || memF r k) = memF t.members k) 3 [] rfl ⟨MOk.nil, fun k => by simp [hasK, kget]⟩ rfl rfl rfl ?_ ?_
        · rintro M ⟨hM, hMk⟩
          refine fR rfl ?_
          refine Run.condF rfl rfl (by simp) ?_
          exact rWeakC 3 rfl (tail M hM (by intro k; have := hMk k; simp only [memF, List.any_nil, Bool.or_false] at this; rw [this]; simp [initB, h3', memF])) rfl rfl rfl
        · rintro i x r M hx1 hi hd ⟨hM, hMk⟩ ih
          refine fR rfl ?_
          refine Run.condT rfl rfl (by simp; omega) ?_
          refine fR rfl ?_
          refine Mid.elemMap rfl rfl rfl hx1 rfl rfl ?_
          refine fM rfl ?_
          refine Mid.mapT (x.name) rfl rfl rfl rfl (sE_ok) rfl ?_
          refine fM rfl ?_
          refine aL rfl rfl rfl rfl rfl ?_
          refine fM rfl ?_
          exact rWeak 3 rfl (ih (kset x.name true M) ⟨hM.kset _, fun k => by
            rw [← hMk k, hasK_kset]
            simp only [memF, List.any_cons]
            cases (x.name == k) <;> cases (hasK M k) <;> simp⟩) rfl rfl rfl
      · have h3' : ¬ t.kind = 3 := by simpa using h3
        exact rWeakC 3 rfl (tail [] MOk.nil (by intro k; simp [initB, hasK, kget, h1', h2', h3'])) rfl rfl rfl
end Go.GB.C11


/-
  D11E: contracts of chapter 11's functions: types of fields (typeref), Is, Sub.
-/
namespace Go.GB.C11
open Go.GB
set_option linter.unusedSimpArgs false
set_option linter.unusedVariables false
set_option maxRecDepth 100000
set_option maxHeartbeats 2000000
variable {P : Program}

/- wrappers -/
def nnF : List Int → Bool
  | [] => false
  | w :: _ => w == 1
def nullF : List Int → List Int
  | [] => []
  | w :: r => if (w == 1) = true then r else w :: r
def headL : List Int → Bool
  | [] => false
  | w :: _ => w == 2
def lstF (w : List Int) : Bool := headL (nullF w)
theorem nullF_le (w : List Int) : (nullF w).length ≤ w.length := by
  cases w with
  | nil => simp [nullF]
  | cons a r => simp only [nullF]; split <;> simp
theorem nullF_nn {w : List Int} (h : nnF w = true) : nullF w = w.tail := by
  cases w with
  | nil => cases h
  | cons a r => simp only [nnF] at h; simp only [nullF]; rw [if_pos h]; rfl
theorem nullF_n {w : List Int} (h : ¬ nnF w = true) : nullF w = w := by
  cases w with
  | nil => rfl
  | cons a r => simp only [nnF] at h; simp only [nullF]; rw [if_neg h]

theorem nn_step (f : FuncId) (hi : fnInfo P f = some (n95, c95.bare, r95)) (hm : P.follows .mixedOrders = true) (t : Ref) (ht : t.Ok) : FnOk P f [t.v] ⟨[], 0⟩ { v := .t (.bool (nnF t.wraps)) } := by
  have hl := ht.l
  obtain ⟨n, w⟩ := t
  refine FnOk.run hi hm rfl rfl ?_
  cases w with
  | nil =>
    refine fR rfl ?_
    refine lM rfl rfl rfl ?_
    refine fM rfl ?_
    refine Mid.grdF rfl rfl rfl rfl rfl ?_
    refine Mid.grdF rfl rfl rfl rfl rfl ?_
    refine Mid.grdF rfl rfl rfl rfl rfl ?_
    refine fM rfl ?_
    refine Run.fin rfl (EndOk.go ?_); exact .t rfl
  | cons a r =>
    refine fR rfl ?_
    refine lM rfl rfl rfl ?_
    refine fM rfl ?_
    refine gr rfl ?_
    refine fM rfl ?_
    refine Run.fin rfl (EndOk.go ?_); exact .t (by simp [nnF])
theorem rNn_ok (H : Pr P) (t : Ref) (ht : t.Ok) : FnOk P 98 [t.v] ⟨[], 0⟩ { v := .t (.bool (nnF t.wraps)) } := nn_step 98 H.i98 H.mixed t ht

theorem nullOk {t : Ref} (ht : t.Ok) : (⟨t.name, nullF t.wraps⟩ : Ref).Ok := ⟨by have := nullF_le t.wraps; have := ht.l; show (nullF t.wraps).length * 8 ≤ _; omega, ht.nm⟩
theorem cut_ok (H : Pr P) (n : Str) (a : Int) (r : List Int) (hl : r.length * 8 ≤ 140737488355320) : FnOk P 145 [(⟨n, a :: r⟩ : Ref).v] ⟨[], 0⟩ { v := (⟨n, r⟩ : Ref).v } := by
  refine FnOk.run H.i145 H.mixed rfl rfl ?_
  refine fR rfl ?_
  refine lF1 rfl rfl rfl rfl ?_
  refine apN nE r rfl rfl rfl ?_ (h1 := by omega) (h2 := by omega)
  refine fM rfl ?_
  refine Run.fin rfl (EndOk.go ?_); exact .agg (.cons (.t rfl) (.cons (.own rfl) .nil))
theorem rNullable_ok (H : Pr P) (t : Ref) (ht : t.Ok) : FnOk P 99 [t.v] ⟨[], 0⟩ { v := (⟨t.name, nullF t.wraps⟩ : Ref).v } := by
  have hl := ht.l
  have hn := rNn_ok H t ht
  obtain ⟨n, w⟩ := t
  refine FnOk.run H.i99 H.mixed rfl rfl ?_
  refine fR rfl ?_
  refine Mid.call (hn) rfl rfl rfl rfl ?_
  refine fM rfl ?_
  refine Run.cond rfl rfl (fun h => ?_) (fun h => ?_)
  · have h' : nnF w = true := h
    cases w with
    | nil => cases h'
    | cons a r =>
      have e : nullF (a :: r) = r := nullF_nn h'
      refine fR rfl ?_
      refine Mid.call (cut_ok H n a r (by simp at hl; omega)) rfl rfl rfl rfl ?_
      refine fM rfl ?_
      refine Run.fin rfl (EndOk.go ?_); exact .agg (.cons (.t rfl) (.cons (.t (by rw [e])) .nil))
  · have h' : ¬ nnF w = true := by rw [show nnF w = false from h]; simp
    refine fR rfl ?_
    refine apN nE w rfl rfl rfl ?_ (h1 := hl) (h2 := by simp at hl; omega)
    refine fM rfl ?_
    refine Run.fin rfl (EndOk.go ?_); exact .agg (.cons (.t rfl) (.cons (.own (by rw [nullF_n h'])) .nil))
end Go.GB.C11


/-
  D11F: contracts of chapter 11's functions: lists among types, Is, Sub.
-/
namespace Go.GB.C11
open Go.GB
set_option linter.unusedSimpArgs false
set_option linter.unusedVariables false
set_option maxRecDepth 100000
set_option maxHeartbeats 2000000
variable {P : Program}

theorem rIsList_ok (H : Pr P) (t : Ref) (ht : t.Ok) : FnOk P 146 [t.v] ⟨[], 0⟩ { v := .t (.bool (lstF t.wraps)) } := by
  have hn := rNullable_ok H t ht
  unfold lstF
  generalize nullF t.wraps = N at hn
  refine FnOk.run H.i146 H.mixed rfl rfl ?_
  refine fR rfl ?_
  refine Mid.call (hn) rfl rfl rfl rfl ?_
  refine fM rfl ?_
  refine lM rfl rfl rfl ?_
  refine fM rfl ?_
  cases N with
  | nil =>
    refine Mid.grdF rfl rfl rfl rfl rfl ?_
    refine Mid.grdF rfl rfl rfl rfl rfl ?_
    refine Mid.grdF rfl rfl rfl rfl rfl ?_
    refine fM rfl ?_
    refine Run.fin rfl (EndOk.go ?_); exact .t rfl
  | cons a r =>
    refine gr rfl ?_
    refine fM rfl ?_
    refine Run.fin rfl (EndOk.go ?_); exact .t (by simp [headL])
theorem lst_cons {w : List Int} (h : lstF w = true) : ∃ r, nullF w = 2 :: r := by
  unfold lstF at h
  cases hn : nullF w with
  | nil => rw [hn] at h; cases h
  | cons a r => rw [hn] at h; simp [headL] at h; subst h; exact ⟨r, rfl⟩
theorem rInnerT_ok (H : Pr P) (t : Ref) (ht : t.Ok) (h : lstF t.wraps = true) : FnOk P 100 [t.v] ⟨[], 0⟩ { v := .tup [(⟨t.name, (nullF t.wraps).tail⟩ : Ref).v, .t (.bool true)] } := by
  have hn := rNullable_ok H t ht
  have hi := rIsList_ok H t ht
  rw [h] at hi
  obtain ⟨r, hr⟩ := lst_cons h
  have hlen := nullF_le t.wraps
  have hl := ht.l
  rw [hr] at hn hlen ⊢
  refine FnOk.run H.i100 H.mixed rfl rfl ?_
  refine fR rfl ?_
  refine Mid.call (hi) rfl rfl rfl rfl ?_
  refine fM rfl ?_
  refine Run.condF rfl rfl rfl ?_
  refine fR rfl ?_
  refine Mid.call (hn) rfl rfl rfl rfl ?_
  skip
  refine Mid.call (cut_ok H t.name 2 r (by simp at hlen; omega)) rfl rfl rfl rfl ?_
  refine fM rfl ?_
  refine Run.fin rfl (EndOk.go ?_); exact .tup2 (.agg (.cons (.t rfl) (.cons (.t rfl) .nil))) (.t rfl)
theorem rInnerF_ok (H : Pr P) (t : Ref) (ht : t.Ok) (h : lstF t.wraps = false) : FnOk P 100 [t.v] ⟨[], 0⟩ { v := .tup [(⟨[], []⟩ : Ref).v, .t (.bool false)] } := by
  have hi := rIsList_ok H t ht
  rw [h] at hi
  refine FnOk.run H.i100 H.mixed rfl rfl ?_
  refine fR rfl ?_
  refine Mid.call (hi) rfl rfl rfl rfl ?_
  refine fM rfl ?_
  refine Run.condT rfl rfl rfl ?_
  refine fR rfl ?_
  refine Run.fin rfl (EndOk.go ?_); exact .tup2 (.agg (.cons (.t rfl) (.cons (.nil rfl) .nil))) (.t rfl)

/-- is it a possible type? -/
def isF (ds : List Def) (o n : Str) : Bool := decide (o ∈ posF ds n)
theorem posL_len (t : Def) (nm : Str) : ∀ (r pre : List Def), (posL t nm pre r).length ≤ r.length
  | [], pre => by simp [posL]
  | o :: r, pre => by
    have := posL_len t nm r (pre ++ [o])
    simp only [posL]
    split <;> simp <;> omega
theorem posF_len (ds : List Def) (nm : Str) : (posF ds nm).length ≤ ds.length := by
  rw [posF_eq]; exact posL_len _ nm ds []
theorem rIs_ok (H : Pr P) (ds : List Def) (hD : DocOk ds) (o n : Str) : FnOk P 48 [docV ds, .t (.str o), .t (.str n)] ⟨[], 0⟩ { v := .t (.bool (isF ds o n)) } := by
  have hl := posF_len ds n
  have := hD.l
  refine FnOk.run H.i48 H.mixed rfl rfl ?_
  refine fR rfl ?_
  refine Mid.call (rPossible_ok H ds hD n) rfl rfl rfl rfl ?_
  refine fM rfl ?_
  refine Mid.call (rHas_ok H (posF ds n) (by omega) o) rfl rfl rfl rfl ?_
  refine fM rfl ?_
  refine Run.fin rfl (EndOk.go ?_); exact .t rfl

/-- Sub on wrappers -/
def subW (bas : Bool) : Nat → List Int → List Int → Bool
  | 0, _, _ => false
  | k + 1, a, b =>
    if nnF b = true then nnF a && subW bas k (nullF a) (nullF b)
    else if nnF a = true then subW bas k (nullF a) b
    else if (lstF a || lstF b) = true then lstF a && lstF b && subW bas k (nullF a).tail (nullF b).tail
    else bas
def subB (ds : List Def) (a b : Str) : Bool := a == b || isF ds a b
def SubC (P : Program) (f : Nat) (ds : List Def) (k : Nat) (a b : Ref) : Prop := FnOk P f [docV ds, a.v, b.v] ⟨[], 0⟩ { v := .t (.bool (subW (subB ds a.name b.name) k a.wraps b.wraps)) }
theorem tailOk {t : Ref} (ht : t.Ok) : (⟨t.name, (nullF t.wraps).tail⟩ : Ref).Ok := ⟨by
  have := nullF_le t.wraps; have := ht.l
  show (nullF t.wraps).tail.length * 8 ≤ _
  rw [List.length_tail]; omega, ht.nm⟩
end Go.GB.C11


/-
  D11G: contracts of chapter 11's functions: Sub of the reference, Overlap, Strings.
-/
namespace Go.GB.C11
open Go.GB
set_option linter.unusedSimpArgs false
set_option linter.unusedVariables false
set_option maxRecDepth 100000
set_option maxHeartbeats 2000000
variable {P : Program}

theorem rSub_step (H : Pr P) (ds : List Def) (hD : DocOk ds) (k : Nat) (a b : Ref) (ha : a.Ok) (hb : b.Ok)
    (hrec : ∀ x y : Ref, x.Ok → y.Ok → x.wraps.length + y.wraps.length < a.wraps.length + b.wraps.length → SubC P 53 ds k x y) : SubC P 53 ds (k + 1) a b := by
  unfold SubC
  refine FnOk.run H.i53 H.mixed rfl rfl ?_
  refine fR rfl ?_
  refine Mid.call (rNn_ok H b hb) rfl rfl rfl rfl ?_
  refine fM rfl ?_
  refine Run.cond rfl rfl (fun h1 => ?_) (fun h1 => ?_)
  · have h1' : nnF b.wraps = true := h1
    have e : subW (subB ds a.name b.name) (k + 1) a.wraps b.wraps = (nnF a.wraps && subW (subB ds a.name b.name) k (nullF a.wraps) (nullF b.wraps)) := by simp only [subW]; rw [if_pos h1']
    have hc := hrec ⟨a.name, nullF a.wraps⟩ ⟨b.name, nullF b.wraps⟩ (nullOk ha) (nullOk hb) (by
      have := nullF_le a.wraps
      have h2 := nullF_nn h1'
      cases hw : b.wraps with
      | nil => rw [hw] at h1'; cases h1'
      | cons c r => rw [hw] at h2; simp only [h2]; simp; omega)
    unfold SubC at hc
    refine fR rfl ?_
    refine Mid.call (rNn_ok H a ha) rfl rfl rfl rfl ?_
    refine fM rfl ?_
    refine caG rfl rfl (fun hg => ⟨_, rfl, rNullable_ok H a ha, rfl⟩) rfl rfl ?_
    refine fM rfl ?_
    refine caG rfl rfl (fun hg => ⟨_, rfl, rNullable_ok H b hb, rfl⟩) rfl rfl ?_
    skip
    refine caG rfl rfl (fun hg => ⟨_, rfl, hc, rfl⟩) rfl rfl ?_
    refine fM rfl ?_
    refine Run.fin rfl (EndOk.go ?_); exact .t (by rw [e])
  · have h1' : ¬ nnF b.wraps = true := by rw [show nnF b.wraps = false from h1]; simp
    refine fR rfl ?_
    refine Mid.call (rNn_ok H a ha) rfl rfl rfl rfl ?_
    refine fM rfl ?_
    refine Run.cond rfl rfl (fun h2 => ?_) (fun h2 => ?_)
    · have h2' : nnF a.wraps = true := h2
      have e : subW (subB ds a.name b.name) (k + 1) a.wraps b.wraps = subW (subB ds a.name b.name) k (nullF a.wraps) b.wraps := by simp only [subW]; rw [if_neg h1', if_pos h2']
      have hc := hrec ⟨a.name, nullF a.wraps⟩ b (nullOk ha) hb (by
        have h2 := nullF_nn h2'
        cases hw : a.wraps with
        | nil => rw [hw] at h2'; cases h2'
        | cons c r => rw [hw] at h2; simp only [h2]; simp)
      unfold SubC at hc
      refine fR rfl ?_
      refine Mid.call (rNullable_ok H a ha) rfl rfl rfl rfl ?_
      refine fM rfl ?_
      refine Mid.call (hc) rfl rfl rfl rfl ?_
      refine fM rfl ?_
      refine Run.fin rfl (EndOk.go ?_); exact .t (by rw [e])
    · have h2' : ¬ nnF a.wraps = true := by rw [show nnF a.wraps = false from h2]; simp
      have e : subW (subB ds a.name b.name) (k + 1) a.wraps b.wraps = if (lstF a.wraps || lstF b.wraps) = true then lstF a.wraps && lstF b.wraps && subW (subB ds a.name b.name) k (nullF a.wraps).tail (nullF b.wraps).tail else subB ds a.name b.name := by simp only [subW]; rw [if_neg h1', if_neg h2']
      refine fR rfl ?_
      cases hla : lstF a.wraps with
      | true =>
        refine Mid.call (rInnerT_ok H a ha hla) rfl rfl rfl rfl ?_
        refine fM rfl ?_
        cases hlb : lstF b.wraps with
        | true =>
          have hc := hrec ⟨a.name, (nullF a.wraps).tail⟩ ⟨b.name, (nullF b.wraps).tail⟩ (tailOk ha) (tailOk hb) (by
            have h3 := nullF_le a.wraps
            have h4 := nullF_le b.wraps
            obtain ⟨r, hr⟩ := lst_cons hla
            rw [hr] at h3
            simp only [List.length_tail, hr]
            simp at h3 ⊢; omega)
          unfold SubC at hc
          rw [hla, hlb] at e
          refine Mid.call (rInnerT_ok H b hb hlb) rfl rfl rfl rfl ?_
          refine fM rfl ?_
          refine Run.condT rfl rfl rfl ?_
          refine fR rfl ?_
          refine Mid.call (hc) rfl rfl rfl rfl ?_
          refine fM rfl ?_
          refine Run.fin rfl (EndOk.go ?_); exact .t (by rw [e]; rfl)
        | false =>
          rw [hla, hlb] at e
          refine Mid.call (rInnerF_ok H b hb hlb) rfl rfl rfl rfl ?_
          refine fM rfl ?_
          refine Run.condF rfl rfl rfl ?_
          refine fR rfl ?_
          refine Mid.grdF rfl rfl rfl rfl rfl ?_
          refine fM rfl ?_
          refine Run.fin rfl (EndOk.go ?_); exact .t (by rw [e]; rfl)
      | false =>
        refine Mid.call (rInnerF_ok H a ha hla) rfl rfl rfl rfl ?_
        refine fM rfl ?_
        cases hlb : lstF b.wraps with
        | true =>
          rw [hla, hlb] at e
          refine Mid.call (rInnerT_ok H b hb hlb) rfl rfl rfl rfl ?_
          refine fM rfl ?_
          refine Run.condF rfl rfl rfl ?_
          refine fR rfl ?_
          refine Mid.grdF rfl rfl rfl rfl rfl ?_
          refine fM rfl ?_
          refine Run.fin rfl (EndOk.go ?_); exact .t (by rw [e]; rfl)
        | false =>
          rw [hla, hlb] at e
          refine Mid.call (rInnerF_ok H b hb hlb) rfl rfl rfl rfl ?_
          refine fM rfl ?_
          refine Run.condF rfl rfl rfl ?_
          refine fR rfl ?_
          refine caG rfl rfl (fun hg => ⟨_, rfl, rIs_ok H ds hD a.name b.name, rfl⟩) rfl rfl ?_
          refine fM rfl ?_
          refine Run.fin rfl (EndOk.go ?_); exact .t (by rw [e]; rfl)
theorem rSub_ok (H : Pr P) (ds : List Def) (hD : DocOk ds) : ∀ (k : Nat) (a b : Ref), a.wraps.length + b.wraps.length < k → a.Ok → b.Ok → SubC P 53 ds k a b
  | 0, a, b, h, _, _ => by omega
  | k + 1, a, b, h, ha, hb => rSub_step H ds hD k a b ha hb fun x y hx hy hlt => rSub_ok H ds hD k x y (by omega) hx hy
end Go.GB.C11


/-
  D11H: contracts of chapter 11's functions: Overlap, lists that are compared, names.
-/
namespace Go.GB.C11
open Go.GB
set_option linter.unusedSimpArgs false
set_option linter.unusedVariables false
set_option maxRecDepth 100000
set_option maxHeartbeats 2000000
variable {P : Program}

theorem in1_ok (H : Pr P) (L : List Str) (hL : L.length ≤ 140737488355328) (x : Str) : FnOk P 93 [.t (.str x), .ptr 0 0] ⟨[(0, .cells [.t (.lst (L.map sE))])], 1⟩ { v := .t (.bool (decide (x ∈ L))), rd := true } := by
  refine FnOk.run H.i93 H.mixed rfl rfl ?_
  refine fR rfl ?_
  refine Mid.call (contains_ok H L hL x) rfl rfl rfl rfl ?_
  refine fM rfl ?_
  refine Run.fin rfl (EndOk.sameX rfl rfl rfl (by first | exact rfl | exact nSto_bd | exact tSto_bd) (.t (rfl)))
def idxS (p : Str → Bool) : Int → List Str → Int
  | _, [] => -1
  | i, b :: l => if p b = true then i else idxS p (i + 1) l
theorem idxS_ge (p : Str → Bool) : ∀ (l : List Str) (i : Int), 0 ≤ i → decide (idxS p i l ≥ 0) = l.any p
  | [], i, h => by simp [idxS]
  | b :: l, i, h => by
    have ih := idxS_ge p l (i + 1) (by omega)
    by_cases hp : p b = true
    · simp [idxS, hp, h]
    · have e : idxS p i (b :: l) = idxS p (i + 1) l := by simp only [idxS]; rw [if_neg hp]
      rw [e, ih]; simp [hp]
theorem indexFuncO_ok (H : Pr P) (L : List Str) (hL : L.length ≤ 140737488355328) (l : List Str) (hl : l.length ≤ 140737488355328) : FnOk P 140 [.t (.lst (l.map sE)), .fn 93 [(0, 0)]] ⟨[(0, .cells [.t (.lst (L.map sE))])], 1⟩ { v := .t (.int .i64 (idxS (fun x => decide (x ∈ L)) 0 l)), rd := true } := by
  refine FnOk.run H.i140 H.mixed rfl rfl ?_
  refine fR rfl ?_
  refine lM rfl rfl rfl ?_
  refine fM rfl ?_
  refine rList l (fun i (_ : Unit) => { env := [(0, .t (.lst (l.map sE))), (1, .fn 93 [(0, 0)]), (7, .t (.int .i64 l.length)), (8, .t (.int .i64 i))], s := ⟨[(0, .cells [.t (.lst (L.map sE))])], 1⟩ }) (fun r i _ => idxS (fun x => decide (x ∈ L)) 0 l = idxS (fun x => decide (x ∈ L)) i r) 1 () rfl rfl rfl rfl rfl ?_ ?_
  · intro _ hinv
    refine fR rfl ?_
    refine Run.condF rfl rfl (by simp) ?_
    refine fR rfl ?_
    refine Run.fin rfl (EndOk.sameX rfl rfl rfl (by first | exact rfl | exact nSto_bd | exact tSto_bd) (.t ((by rw [hinv]; rfl))))
  · intro i x r _ h1 hi hd hinv ih
    refine fR rfl ?_
    refine Run.condT rfl rfl (by simp; omega) ?_
    refine fR rfl ?_
    refine Mid.elemMap rfl rfl rfl h1 rfl rfl ?_
    refine fM rfl ?_
    refine Mid.callvS rfl (in1_ok H L hL x) rfl rfl rfl rfl ?_
    refine fM rfl ?_
    refine Run.cond rfl rfl (fun hc => ?_) (fun hc => ?_)
    · refine fR rfl ?_
      refine Run.fin rfl (EndOk.sameX rfl rfl rfl (by first | exact rfl | exact nSto_bd | exact tSto_bd) (.t ((by rw [hinv]; simp only [idxS]; rw [if_pos hc]))))
    · refine fR rfl ?_
      refine aL rfl rfl rfl rfl rfl ?_
      refine fM rfl ?_
      have h' : ¬ decide (x ∈ L) = true := by rw [hc]; simp
      exact rWeak 1 rfl (ih () (by rw [hinv]; simp only [idxS]; rw [if_neg h']; rfl)) rfl rfl rfl
theorem containsFuncO_ok (H : Pr P) (L : List Str) (hL : L.length ≤ 140737488355328) (l : List Str) (hl : l.length ≤ 140737488355328) : FnOk P 92 [.t (.lst (l.map sE)), .fn 93 [(0, 0)]] ⟨[(0, .cells [.t (.lst (L.map sE))])], 1⟩ { v := .t (.bool (l.any (fun x => decide (x ∈ L)))), rd := true } := by
  refine FnOk.run H.i92 H.mixed rfl rfl ?_
  refine fR rfl ?_
  refine Mid.callS (indexFuncO_ok H L hL l hl) rfl rfl (by first | exact rfl | exact nSto_bd | exact tSto_bd) rfl ?_
  refine fM rfl ?_
  refine Run.fin rfl (EndOk.sameX rfl rfl rfl (by first | exact rfl | exact nSto_bd | exact tSto_bd) (.t ((by rw [← idxS_ge (fun x => decide (x ∈ L)) l 0 (by omega)]))))
def ovF (ds : List Def) (a b : Str) : Bool := (posF ds a).any fun x => decide (x ∈ posF ds b)
theorem overlap_ok (H : Pr P) (ds : List Def) (hD : DocOk ds) (a b : Str) : FnOk P 49 [docV ds, .t (.str a), .t (.str b)] ⟨[], 0⟩ { v := .t (.bool (ovF ds a b)) } := by
  have hla := posF_len ds a
  have hlb := posF_len ds b
  have := hD.l
  refine FnOk.run H.i49 H.mixed rfl rfl ?_
  refine fR rfl ?_
  refine Mid.call (possible_ok H ds hD b) rfl rfl rfl rfl ?_
  refine fM rfl ?_
  refine Mid.call (possible_ok H ds hD a) rfl rfl rfl rfl ?_
  refine fM rfl ?_
  refine Mid.callRd [1] (containsFuncO_ok H (posF ds b) (by omega) (posF ds a) (by omega)) rfl rfl rfl rfl (by simp [stoBd]; simp [AObj.bd, V.bds, V.bd]) (by repeat' (first | exact trivial | exact rfl | refine And.intro ?_ ?_ | exact (congrArg some (AObj.ren_mE _ _ _ _ _ _)).symm | exact (congrArg some (AObj.ren_cE _ _ _)).symm)) rfl ?_
  refine fM rfl ?_
  refine Run.fin rfl (EndOk.go ?_); exact .t rfl
/- lists that are compared -/
theorem drop_at {α : Type} {l : List α} {i : Nat} {y : α} (h : l[i]? = some y) : l.drop i = y :: l.drop (i + 1) := by
  obtain ⟨hi, hy⟩ := List.getElem?_eq_some_iff.1 h
  rw [List.drop_eq_getElem_cons hi, hy]
theorem at_of_len {α β : Type} {a : List α} {b : List β} (h : a.length = b.length) {i : Nat} (hi : i < a.length) : ∃ y, b[i]? = some y := ⟨b[i]'(by omega), by simp [show i < b.length by omega]⟩
theorem same_ok (H : Pr P) (a b : List Int) (ha : a.length ≤ 140737488355328) (hb : b.length ≤ 140737488355328) : FnOk P 147 [.t (.lst (a.map nE)), .t (.lst (b.map nE))] ⟨[], 0⟩ { v := .t (.bool (decide (a = b))) } := by
  refine FnOk.run H.i147 H.mixed rfl rfl ?_
  refine fR rfl ?_
  refine lM rfl rfl rfl ?_
  refine fM rfl ?_
  refine lM rfl rfl rfl ?_
  refine fM rfl ?_
  refine Run.cond rfl rfl (fun h => ?_) (fun h => ?_)
  · have h' : ¬ a.length = b.length := by simp at h; omega
    refine fR rfl ?_
    refine Run.fin rfl (EndOk.go ?_); exact .t (by simp; intro e; exact h' (by rw [e]))
  · have h' : a.length = b.length := by simp at h; omega
    refine fR rfl ?_
    refine rList a (fun i (_ : Unit) => { env := [(0, .t (.lst (a.map nE))), (1, .t (.lst (b.map nE))), (5, .t (.int .i64 i))], s := ⟨[], 0⟩ }) (fun r i _ => decide (a = b) = decide (r = b.drop i)) 0 () rfl (by simp) rfl rfl rfl ?_ ?_
    · intro _ hinv
      refine fR rfl ?_
      refine lM rfl rfl rfl ?_
      refine fM rfl ?_
      refine Run.condF rfl rfl (by simp) ?_
      refine fR rfl ?_
      refine Run.fin rfl (EndOk.go ?_); exact .t (by rw [hinv, h']; simp)
    · intro i x r _ h1 hi hd hinv ih
      obtain ⟨y, hy⟩ := at_of_len h' hi
      have hinv' : decide (a = b) = decide (x :: r = b.drop i) := hinv
      rw [drop_at hy] at hinv'
      refine fR rfl ?_
      refine lM rfl rfl rfl ?_
      refine fM rfl ?_
      refine Run.condT rfl rfl (by simp; omega) ?_
      refine fR rfl ?_
      refine Mid.elemMap rfl rfl rfl h1 rfl rfl ?_
      refine fM rfl ?_
      refine Mid.elemMap rfl rfl rfl hy rfl rfl ?_
      refine fM rfl ?_
      refine Run.cond rfl rfl (fun hc => ?_) (fun hc => ?_)
      · have hc' : ¬ x = y := by simpa using hc
        refine fR rfl ?_
        refine Run.fin rfl (EndOk.go ?_); exact .t (by rw [hinv']; simp [hc'])
      · have hc' : x = y := by simpa using hc
        refine fR rfl ?_
        refine aL rfl rfl rfl rfl rfl ?_
        refine fM rfl ?_
        exact rWeak 0 rfl (ih () (by rw [hinv']; simp [hc'])) rfl rfl rfl
structure Fault where
  err : Int
  at_ : Str
instance : DecidableEq Fault := fun a b => decidable_of_iff (a.err = b.err ∧ a.at_ = b.at_) (by cases a; cases b; simp)
def Fault.enc (f : Fault) : List T := [.int .i64 f.err, .str f.at_]
theorem faults_ok (H : Pr P) (a b : List Fault) (ha : a.length ≤ 140737488355328) (hb : b.length ≤ 140737488355328) : FnOk P 40 [.t (.lst (a.map Fault.enc)), .t (.lst (b.map Fault.enc))] ⟨[], 0⟩ { v := .t (.bool (decide (a = b))) } := by
  refine FnOk.run H.i40 H.mixed rfl rfl ?_
  refine fR rfl ?_
  refine lM rfl rfl rfl ?_
  refine fM rfl ?_
  refine lM rfl rfl rfl ?_
  refine fM rfl ?_
  refine Run.cond rfl rfl (fun h => ?_) (fun h => ?_)
  · have h' : ¬ a.length = b.length := by simp at h; omega
    refine fR rfl ?_
    refine Run.fin rfl (EndOk.go ?_); exact .t (by simp; intro e; exact h' (by rw [e]))
  · have h' : a.length = b.length := by simp at h; omega
    refine fR rfl ?_
    refine rList a (fun i (_ : Unit) => { env := [(0, .t (.lst (a.map Fault.enc))), (1, .t (.lst (b.map Fault.enc))), (5, .t (.int .i64 i))], s := ⟨[], 0⟩ }) (fun r i _ => decide (a = b) = decide (r = b.drop i)) 0 () rfl (by simp) rfl rfl rfl ?_ ?_
    · intro _ hinv
      refine fR rfl ?_
      refine lM rfl rfl rfl ?_
      refine fM rfl ?_
      refine Run.condF rfl rfl (by simp) ?_
      refine fR rfl ?_
      refine Run.fin rfl (EndOk.go ?_); exact .t (by rw [hinv, h']; simp)
    · intro i x r _ h1 hi hd hinv ih
      obtain ⟨y, hy⟩ := at_of_len h' hi
      have hinv' : decide (a = b) = decide (x :: r = b.drop i) := hinv
      rw [drop_at hy] at hinv'
      refine fR rfl ?_
      refine lM rfl rfl rfl ?_
      refine fM rfl ?_
      refine Run.condT rfl rfl (by simp; omega) ?_
      refine fR rfl ?_
      refine Mid.elemMap rfl rfl rfl h1 rfl rfl ?_
      refine fM rfl ?_
      refine Mid.elemMap rfl rfl rfl hy rfl rfl ?_
      refine fM rfl ?_
      refine p0 rfl ?_
      refine fM rfl ?_
      refine Run.cond rfl rfl (fun hc => ?_) (fun hc => ?_)
      · have hc' : ¬ x = y := by
          rintro rfl
          simp [keyEq, T.eqb] at hc
        refine fR rfl ?_
        refine Run.fin rfl (EndOk.go ?_); exact .t (by rw [hinv']; simp [hc'])
      · have hc' : x = y := by
          simp [keyEq, T.eqb] at hc
          cases x; cases y; simp at hc ⊢; exact hc
        refine fR rfl ?_
        refine aL rfl rfl rfl rfl rfl ?_
        refine fM rfl ?_
        exact rWeak 0 rfl (ih () (by rw [hinv']; simp [hc'])) rfl rfl rfl
end Go.GB.C11


/-
  D11I: contracts of chapter 11's functions: Large, right types, Fits.
-/
namespace Go.GB.C11
open Go.GB
set_option linter.unusedSimpArgs false
set_option linter.unusedVariables false
set_option maxRecDepth 100000
set_option maxHeartbeats 2000000
variable {P : Program}

def lgFld (n : Int) (f : Field) : Int := IntKind.i64.wrap (n + IntKind.i64.wrap ((f.args.length : Nat) + (f.dirs.length : Nat)))
def lgDef (n : Int) (d : Def) : Int := d.fields.foldl lgFld (IntKind.i64.wrap (n + IntKind.i64.wrap (IntKind.i64.wrap (IntKind.i64.wrap (IntKind.i64.wrap (IntKind.i64.wrap (1 + (d.fields.length : Nat)) + (d.members.length : Nat)) + (d.inputs.length : Nat)) + (d.dirs.length : Nat)) + (d.implements.length : Nat))))
def largeF (ds : List Def) : Bool := decide ((ds.length : Int) > 70) || decide (ds.foldl lgDef 0 > 1000)
theorem large_ok (H : Pr P) (ds : List Def) (hD : DocOk ds) : FnOk P 29 [docV ds] ⟨[], 0⟩ { v := .t (.bool (largeF ds)) } := by
  have hl := hD.l
  refine FnOk.run H.i29 H.mixed rfl rfl ?_
  refine fR rfl ?_
  refine lM rfl rfl rfl ?_
  refine fM rfl ?_
  refine Run.cond rfl rfl (fun h => ?_) (fun h => ?_)
  · refine fR rfl ?_
    refine Run.fin rfl (EndOk.go ?_); exact .t (by unfold largeF; rw [show decide ((ds.length : Int) > 70) = true from h]; rfl)
  · have h' : decide ((ds.length : Int) > 70) = false := h
    refine fR rfl ?_
    refine rList ds (fun i (n : Int) => { env := [(1, .ptr 0 0), (3, .t (.int .i64 n)), (4, .t (.int .i64 i))], s := ⟨[(0, .cells [.t (.lst (ds.map Def.enc))])], 1⟩ }) (fun r i n => ds.foldl lgDef 0 = r.foldl lgDef n) 1 0 rfl rfl rfl rfl rfl ?_ ?_
    · rintro n hinv
      refine fR rfl ?_
      refine lM rfl rfl rfl ?_
      refine fM rfl ?_
      refine Run.condF rfl rfl (by simp) ?_
      refine fR rfl ?_
      refine Run.fin rfl (EndOk.go ?_); exact .t (by unfold largeF; rw [h', hinv]; rfl)
    · rintro i x r n h1 hi hd hinv ih
      have hinv' : ds.foldl lgDef 0 = r.foldl lgDef (lgDef n x) := hinv
      refine fR rfl ?_
      refine lM rfl rfl rfl ?_
      refine fM rfl ?_
      refine Run.condT rfl rfl (by simp; omega) ?_
      refine fR rfl ?_
      refine Mid.elemMap rfl rfl rfl h1 rfl rfl ?_
      refine fM rfl ?_
      refine lM rfl rfl rfl ?_
      refine p0 rfl ?_
      refine fM rfl ?_
      refine lM rfl rfl rfl ?_
      refine p0 rfl ?_
      refine fM rfl ?_
      refine lM rfl rfl rfl ?_
      refine p0 rfl ?_
      refine fM rfl ?_
      refine lM rfl rfl rfl ?_
      refine p0 rfl ?_
      refine fM rfl ?_
      refine lM rfl rfl rfl ?_
      refine p0 rfl ?_
      refine p0 rfl ?_
      refine fM rfl ?_
      have hfl := (hD.d x (List.mem_of_getElem? h1)).fl
      generalize hn1 : IntKind.i64.wrap (n + IntKind.i64.wrap (IntKind.i64.wrap (IntKind.i64.wrap (IntKind.i64.wrap (IntKind.i64.wrap (1 + (x.fields.length : Nat)) + (x.members.length : Nat)) + (x.inputs.length : Nat)) + (x.dirs.length : Nat)) + (x.implements.length : Nat))) = n1
      have en : lgDef n x = x.fields.foldl lgFld n1 := by rw [← hn1]; rfl
      rw [en] at hinv'
      refine rList x.fields (fun j (n : Int) => { env := [(1, .ptr 0 0), (3, .t (.int .i64 n)), (4, .t (.int .i64 i)), (5, .ptr 1 0), (6, .t (.int .i64 j))], s := ⟨[(0, .cells [.t (.lst (ds.map Def.enc))]), (1, .cells [.t (.int .i64 x.kind), .t (.str x.name), .t (.lst (x.implements.map sE)), .t (.lst (x.dirs.map Dir.enc)), .t (.lst (x.fields.map Field.enc)), .t (.lst (x.members.map Member.enc)), .t (.lst (x.inputs.map Input.enc))])], 2⟩ }) (fun r2 j n => ds.foldl lgDef 0 = r.foldl lgDef (r2.foldl lgFld n)) 2 n1 rfl (by rw [hinv']) rfl rfl rfl ?_ ?_
      · rintro n2 hinv2
        refine fR rfl ?_
        refine lM rfl rfl rfl ?_
        refine fM rfl ?_
        refine Run.condF rfl rfl (by simp) ?_
        refine fR rfl ?_
        refine aL rfl rfl rfl rfl rfl ?_
        refine fM rfl ?_
        exact rWeak 1 rfl (ih n2 (by rw [hinv2]; rfl)) rfl rfl rfl
      · rintro j f r2 n2 h2 hj hjd hinv2 ih2
        refine fR rfl ?_
        refine lM rfl rfl rfl ?_
        refine fM rfl ?_
        refine Run.condT rfl rfl (by simp; omega) ?_
        refine fR rfl ?_
        refine Mid.elemMap rfl rfl rfl h2 rfl rfl ?_
        refine fM rfl ?_
        refine lM rfl rfl rfl ?_
        refine fM rfl ?_
        refine Mid.elemMap rfl rfl rfl h2 rfl rfl ?_
        refine fM rfl ?_
        refine lM rfl rfl rfl ?_
        refine p0 rfl ?_
        refine p0 rfl ?_
        refine fM rfl ?_
        refine aL rfl rfl rfl rfl rfl ?_
        refine fM rfl ?_
        exact rWeak 2 rfl (ih2 (lgFld n2 f) (by rw [hinv2]; rfl)) rfl rfl rfl

def scalF (n : Str) : Bool := n == [73, 110, 116] || n == [83, 116, 114, 105, 110, 103] || n == [66, 111, 111, 108, 101, 97, 110] || n == [73, 68]
theorem scalar_ok (H : Pr P) (n : Str) : FnOk P 136 [.t (.str n)] ⟨[], 0⟩ { v := .t (.bool (scalF n)) } := by
  refine FnOk.run H.i136 H.mixed rfl rfl ?_
  refine fR rfl ?_
  refine Run.fin rfl (EndOk.go ?_); exact .t (by simp [scalF])
theorem rScalar_ok (H : Pr P) (n : Str) : FnOk P 85 [.t (.str n)] ⟨[], 0⟩ { v := .t (.bool (scalF n)) } := by
  refine FnOk.run H.i85 H.mixed rfl rfl ?_
  refine fR rfl ?_
  refine Run.fin rfl (EndOk.go ?_); exact .t (by simp [scalF])

/- names -/
def letF (c : Int) : Bool := (decide (c ≥ 65) && decide (c ≤ 90)) || (decide (c ≥ 97) && decide (c ≤ 122)) || c == 95
def digF (c : Int) : Bool := decide (c ≥ 48) && decide (c ≤ 57)
theorem letter_ok (H : Pr P) (c : Int) : FnOk P 141 [.t (.int .u8 c)] ⟨[], 0⟩ { v := .t (.bool (letF c)) } := by
  refine FnOk.run H.i141 H.mixed rfl rfl ?_
  refine fR rfl ?_
  refine Run.fin rfl (EndOk.go ?_); exact .t rfl
theorem digit_ok (H : Pr P) (c : Int) : FnOk P 142 [.t (.int .u8 c)] ⟨[], 0⟩ { v := .t (.bool (digF c)) } := by
  refine FnOk.run H.i142 H.mixed rfl rfl ?_
  refine fR rfl ?_
  refine Run.fin rfl (EndOk.go ?_); exact .t rfl
def nmOk (first : Bool) : List UInt8 → Bool
  | [] => true
  | c :: r => (letF c.toNat || (!first && digF c.toNat)) && nmOk false r
def nameF (s : Str) : Bool := decide (1 ≤ s.length ∧ s.length ≤ 64) && nmOk true s
theorem name_ok (H : Pr P) (s : Str) (hs : s.length ≤ 140737488355328) : FnOk P 94 [.t (.str s)] ⟨[], 0⟩ { v := .t (.bool (nameF s)) } := by
  refine FnOk.run H.i94 H.mixed rfl rfl ?_
  refine fR rfl ?_
  refine Run.cond rfl rfl (fun h => ?_) (fun h => ?_)
  · have h' : ¬ (1 ≤ s.length ∧ s.length ≤ 64) := by simp at h; omega
    refine fR rfl ?_
    refine Run.fin rfl (EndOk.go ?_); exact .t (by unfold nameF; rw [show decide (1 ≤ s.length ∧ s.length ≤ 64) = false from by simpa using h']; rfl)
  · have h' : 1 ≤ s.length ∧ s.length ≤ 64 := by simp at h; omega
    have e : nameF s = nmOk true s := by unfold nameF; rw [show decide (1 ≤ s.length ∧ s.length ≤ 64) = true from by simpa using h']; rfl
    refine fR rfl ?_
    refine rList s (fun i (_ : Unit) => { env := [(0, .t (.str s)), (3, .t (.int .i64 i))], s := ⟨[], 0⟩ }) (fun r i _ => nmOk true s = nmOk (i == 0) r) 0 () rfl rfl rfl rfl rfl ?_ ?_
    · intro _ hinv
      refine fR rfl ?_
      refine Run.condF rfl rfl (by simp) ?_
      refine fR rfl ?_
      refine Run.fin rfl (EndOk.go ?_); exact .t (by rw [e, hinv]; rfl)
    · intro i c r _ h1 hi hd hinv ih
      refine fR rfl ?_
      refine Run.condT rfl rfl (by simp; omega) ?_
      refine fR rfl ?_
      refine Mid.byte rfl rfl h1 rfl ?_
      skip
      refine Mid.call (letter_ok H c.toNat) rfl rfl rfl rfl ?_
      refine fM rfl ?_
      refine byG rfl rfl rfl h1 rfl ?_
      skip
      refine caG rfl rfl (fun hg => ⟨_, rfl, digit_ok H c.toNat, rfl⟩) rfl rfl ?_
      refine fM rfl ?_
      have hb : ((i : Int) == 0) = (i == 0) := by
        cases i with
        | zero => rfl
        | succ i => simp; omega
      have hb2 : (i + 1 == 0) = false := by simp
      refine Run.cond rfl rfl (fun hc => ?_) (fun hc => ?_)
      · have hc' : (letF c.toNat || (!(i == 0) && digF c.toNat)) = false := by
          rw [hb] at hc
          revert hc; cases letF c.toNat <;> cases (i == 0) <;> cases digF c.toNat <;> simp
        refine fR rfl ?_
        refine Run.fin rfl (EndOk.go ?_); exact .t (by rw [e, hinv]; simp only [nmOk]; rw [hc']; rfl)
      · have hc' : (letF c.toNat || (!(i == 0) && digF c.toNat)) = true := by
          rw [hb] at hc
          revert hc; cases letF c.toNat <;> cases (i == 0) <;> cases digF c.toNat <;> simp
        refine fR rfl ?_
        refine aL rfl rfl rfl rfl rfl ?_
        refine fM rfl ?_
        exact rWeak 0 rfl (ih () (by rw [hinv, hb2]; simp only [nmOk]; rw [hc']; rfl)) rfl rfl rfl

/- right types -/
def rgW (first nn : Bool) : List Int → Bool
  | [] => true
  | w :: r => !(w != 1 && w != 2) && !(!first && w == 1 && nn) && rgW false (w == 1) r
def rightF (t : Ref) : Bool := nameF t.name && decide (t.wraps.length ≤ 24) && rgW true false t.wraps
theorem right_ok (H : Pr P) (t : Ref) (ht : t.Ok) : FnOk P 51 [t.v] ⟨[], 0⟩ { v := .t (.bool (rightF t)) } := by
  have hl := ht.l
  have hn := ht.nm
  refine FnOk.run H.i51 H.mixed rfl rfl ?_
  refine fR rfl ?_
  refine Mid.call (name_ok H t.name hn) rfl rfl rfl rfl ?_
  refine fM rfl ?_
  refine lMG rfl rfl rfl rfl ?_
  refine fM rfl ?_
  refine Run.cond rfl rfl (fun h => ?_) (fun h => ?_)
  · refine fR rfl ?_
    refine Run.fin rfl (EndOk.go ?_); exact .t (by
      unfold rightF
      have : (nameF t.name && decide (t.wraps.length ≤ 24)) = false := by
        cases h1 : nameF t.name with
        | false => rfl
        | true => rw [h1] at h; simp at h; simp; omega
      rw [this]; rfl)
  · have h' : (nameF t.name && decide (t.wraps.length ≤ 24)) = true := by
      cases h1 : nameF t.name with
      | false => rw [h1] at h; simp at h
      | true => rw [h1] at h; simp at h; simp; omega
    have e : rightF t = rgW true false t.wraps := by unfold rightF; rw [h']; rfl
    refine fR rfl ?_
    refine rList t.wraps (fun i (_ : Unit) => { env := [(1, .ptr 0 0), (3, .t (.int .i64 i))], s := ⟨[(0, .cells [.t (.str t.name), .t (.lst (t.wraps.map nE))])], 1⟩ }) (fun r i _ => ∃ nn : Bool, (∀ j : Nat, i = j + 1 → ∃ w, t.wraps[j]? = some w ∧ nn = (w == 1)) ∧ rgW true false t.wraps = rgW (i == 0) nn r) 1 () rfl ⟨false, fun j h => by omega, rfl⟩ rfl rfl rfl ?_ ?_
    · rintro _ ⟨nn, _, hinv⟩
      refine fR rfl ?_
      refine lM rfl rfl rfl ?_
      refine fM rfl ?_
      refine Run.condF rfl rfl (by simp) ?_
      refine fR rfl ?_
      refine Run.fin rfl (EndOk.go ?_); exact .t (by rw [e, hinv]; rfl)
    · rintro i w r _ h1 hi hd ⟨nn, hnn, hinv⟩ ih
      refine fR rfl ?_
      refine lM rfl rfl rfl ?_
      refine fM rfl ?_
      refine Run.condT rfl rfl (by simp; omega) ?_
      refine fR rfl ?_
      refine Mid.elemMap rfl rfl rfl h1 rfl rfl ?_
      refine fM rfl ?_
      refine elG rfl rfl rfl rfl h1 rfl rfl ?_
      refine fM rfl ?_
      refine Run.cond rfl rfl (fun hc => ?_) (fun hc => ?_)
      · refine fR rfl ?_
        refine Run.fin rfl (EndOk.go ?_); exact .t (by rw [e, hinv]; simp only [rgW]; rw [show (w != 1 && w != 2) = true from hc]; rfl)
      · have hc' : (w != 1 && w != 2) = false := hc
        have hlast : ∀ j : Nat, i + 1 = j + 1 → ∃ w', t.wraps[j]? = some w' ∧ (w == 1) = (w' == 1) := fun j hj => by
          obtain rfl : j = i := by omega
          exact ⟨w, h1, rfl⟩
        have hb2 : (i + 1 == 0) = false := by simp
        cases i with
        | zero =>
          obtain ⟨nm, ws⟩ := t
          cases ws with
          | nil => simp at hi
          | cons w0 r0 =>
            simp at h1 hd
            subst h1; subst hd
            refine fR rfl ?_
            refine gr rfl ?_
            refine fM rfl ?_
            refine s64G rfl rfl rfl rfl ?_
            refine gr rfl ?_
            refine fM rfl ?_
            refine Run.condF rfl rfl rfl ?_
            refine fR rfl ?_
            refine aL rfl rfl rfl rfl rfl ?_
            refine fM rfl ?_
            exact rWeak 1 rfl (ih () ⟨w0 == 1, hlast, by rw [hinv, hb2]; simp only [rgW]; rw [hc']; rfl⟩) rfl rfl rfl
        | succ j =>
          obtain ⟨w', hw', rfl⟩ := hnn j rfl
          have ej : IntKind.i64.wrap (((j + 1 : Nat) : Int) - 1) = (j : Int) := by rw [wrap64 (by omega) (by omega)]; omega
          refine fR rfl ?_
          refine elG rfl rfl rfl rfl h1 rfl rfl ?_
          refine fM rfl ?_
          refine s64G rfl rfl rfl rfl ?_
          rw [show ((j + 1 : Nat) : Int) - 1 = (j : Int) from by omega]
          refine elG rfl rfl rfl rfl hw' rfl rfl ?_
          refine fM rfl ?_
          have hg : decide (((j + 1 : Nat) : Int) > 0) = true := decide_eq_true (by omega)
          have hb1 : (j + 1 == 0) = false := by simp
          refine Run.cond rfl rfl (fun hx => ?_) (fun hx => ?_)
          · refine fR rfl ?_
            refine Run.fin rfl (EndOk.go ?_); exact .t (by
              rw [hg] at hx
              have e3 : (w == 1 && w' == 1) = true := hx
              rw [e, hinv, hb1]; simp only [rgW, hc', Bool.not_false, Bool.true_and, e3]; rfl)
          · rw [hg] at hx
            refine fR rfl ?_
            refine aL rfl rfl rfl rfl rfl ?_
            refine fM rfl ?_
            exact rWeak 1 rfl (ih () ⟨w == 1, hlast, by
              have e3 : (w == 1 && w' == 1) = false := hx
              rw [hinv, hb1, hb2]; simp only [rgW, hc', Bool.not_false, Bool.true_and, e3]⟩) rfl rfl rfl

/- lists of lists, Fits -/
end Go.GB.C11


/-
  D11J: contracts of chapter 11's functions: Fits.
-/
namespace Go.GB.C11
open Go.GB
set_option linter.unusedSimpArgs false
set_option linter.unusedVariables false
set_option maxRecDepth 100000
set_option maxHeartbeats 2000000
variable {P : Program}

/- plain law: right types are lists of signs, one for each level -/
inductive RW : List Int → Prop
  | base : RW []
  | nn : RW [1]
  | lst {r : List Int} (h : RW r) : RW (2 :: r)
  | nnl {r : List Int} (h : RW r) : RW (1 :: 2 :: r)
end Go.GB.C11


/-
  D11K: plain law of chapter 11: Sub of right types.
-/
namespace Go.GB.C11
open Go.GB
set_option linter.unusedSimpArgs false
set_option linter.unusedVariables false

end Go.GB.C11


/-
  D11L: contracts of chapter 11's functions: the parts of Faces.
-/
namespace Go.GB.C11
open Go.GB
set_option linter.unusedSimpArgs false
set_option linter.unusedVariables false
set_option maxRecDepth 100000
set_option maxHeartbeats 2000000
variable {P : Program}

def Input.v (x : Input) : V := .agg [.t (.str x.name), .t (.str x.ty.name), .t (.lst (x.ty.wraps.map nE)), .t (.bool x.has), .t (.int .i64 x.dflt.kind), .t (.int .i64 x.dflt.int), .t (.str x.dflt.text), .t (.lst (x.dflt.items.map Val.enc)), .t (.lst (x.dflt.keys.map sE)), .t (.lst (x.dirs.map Dir.enc))]
def Input.zero : Input := ⟨[], ⟨[], []⟩, false, Val.zero, []⟩
theorem Input.zero_ok : Input.zero.Ok := ⟨⟨by decide, by decide⟩, Val.zero_ok, by decide, by simp [Input.zero], by decide⟩
def findInput (n : Str) : List Input → Option Input
  | [] => none
  | d :: r => if (d.name == n) = true then some d else findInput n r
theorem findInput_mem {n : Str} : ∀ {l : List Input} {d : Input}, findInput n l = some d → d ∈ l
  | [], d, h => by simp [findInput] at h
  | x :: r, d, h => by
    simp only [findInput] at h
    split at h
    · cases h; exact List.mem_cons_self ..
    · exact List.mem_cons_of_mem _ (findInput_mem h)
def sameR (a b : Ref) : Bool := a.name == b.name && decide (a.wraps = b.wraps)
/-- the report of 'named' -/
def namedF (ds : List Def) (n : Str) (k : Int) : Int :=
  if (!(findDef n ds).isSome && !(scalF n)) = true then 8
  else if (!(findDef n ds).isSome || ((findDef n ds).getD Def.zero).kind != k) = true then 9
  else 0
end Go.GB.C11


/-
  D11M: contracts of chapter 11's functions: a type and an interface.
-/
namespace Go.GB.C11
open Go.GB
set_option linter.unusedSimpArgs false
set_option linter.unusedVariables false
set_option maxRecDepth 100000
set_option maxHeartbeats 2000000
variable {P : Program}

def subTy (ds : List Def) (a b : Ref) : Bool := subW (subB ds a.name b.name) (a.wraps.length + b.wraps.length + 1) a.wraps b.wraps
theorem rSubTy_ok (H : Pr P) (ds : List Def) (hD : DocOk ds) (a b : Ref) (ha : a.Ok) (hb : b.Ok) : FnOk P 53 [docV ds, a.v, b.v] ⟨[], 0⟩ { v := .t (.bool (subTy ds a b)) } := rSub_ok H ds hD _ a b (Nat.lt_succ_self _) ha hb
def badA (y : Field) (a : Input) : Bool := !(findInput a.name y.args).isSome || !(sameR a.ty ((findInput a.name y.args).getD Input.zero).ty)
def argsA (y : Field) (at_ : Str) : List Input → List Fault
  | [] => []
  | a :: r => if badA y a = true then ⟨22, at_ ++ [40] ++ a.name ++ [41]⟩ :: argsA y at_ r else argsA y at_ r
def badR (x : Field) (b : Input) : Bool := !(findInput b.name x.args).isSome && nnF b.ty.wraps && !b.has
def argsB (x : Field) (at_ : Str) : List Input → List Fault
  | [] => []
  | b :: r => if badR x b = true then ⟨22, at_ ++ [40] ++ b.name ++ [41]⟩ :: argsB x at_ r else argsB x at_ r
def atF (t : Def) (x : Field) : Str := t.name ++ [46] ++ x.name
def fldF (ds : List Def) (t : Def) (x : Field) : List Fault :=
  match findField x.name t.fields with
  | none => [⟨20, atF t x⟩]
  | some y => (if subTy ds y.ty x.ty = true then [] else [(⟨10, atF t x⟩ : Fault)]) ++ (argsA y (atF t x) x.args ++ argsB x (atF t x) y.args)
def faceF (ds : List Def) (t : Def) : List Field → List Fault
  | [] => []
  | x :: r => fldF ds t x ++ faceF ds t r
theorem inOk {l : List Input} (h : ∀ y, y ∈ l → y.Ok) (n : Str) : ((findInput n l).getD Input.zero).Ok := by
  cases e : findInput n l with
  | none => exact Input.zero_ok
  | some x => exact h x (findInput_mem e)

end Go.GB.C11


/-
  D11N: contracts of chapter 11's functions: Faces.
-/
namespace Go.GB.C11
open Go.GB
set_option linter.unusedSimpArgs false
set_option linter.unusedVariables false
set_option maxRecDepth 100000
set_option maxHeartbeats 2000000
variable {P : Program}

def objE (ds : List Def) (pre : List Str) (n : Str) : Int := if (namedF ds n 2 == 0 && decide (n ∈ pre)) = true then 7 else namedF ds n 2
def objL (ds : List Def) (t : Def) : List Str → List Str → List Fault
  | _, [] => []
  | pre, n :: r => (if objE ds pre n = 0 then faceF ds t ((findDef n ds).getD Def.zero).fields else [(⟨objE ds pre n, t.name⟩ : Fault)]) ++ objL ds t (pre ++ [n]) r
def objF (ds : List Def) (t : Def) : List Fault := objL ds t [] t.implements

end Go.GB.C11


/-
  D11O: contracts of chapter 11's functions: Faces.
-/
namespace Go.GB.C11
open Go.GB
set_option linter.unusedSimpArgs false
set_option linter.unusedVariables false
set_option maxRecDepth 100000
set_option maxHeartbeats 2000000
variable {P : Program}

def unE (ds : List Def) (pre : List Member) (m : Member) : Int := if (namedF ds m.name 1 == 0 && memF pre m.name) = true then 7 else namedF ds m.name 1
def unL (ds : List Def) (t : Def) : List Member → List Member → List Fault
  | _, [] => []
  | pre, m :: r => (if unE ds pre m = 0 then [] else [(⟨unE ds pre m, t.name ++ [46] ++ m.name⟩ : Fault)]) ++ unL ds t (pre ++ [m]) r
def facesL (ds : List Def) : List Def → List Fault
  | [] => []
  | t :: r => (if t.kind = 1 then objF ds t else if t.kind = 3 then unL ds t [] t.members else []) ++ facesL ds r
def facesF (ds : List Def) : List Fault := facesL ds ds

end Go.GB.C11


/-
  D11P: contracts of chapter 11's functions: the examples.
-/
namespace Go.GB.C11
open Go.GB
set_option linter.unusedSimpArgs false
set_option linter.unusedVariables false
set_option maxRecDepth 100000
set_option maxHeartbeats 2000000
variable {P : Program}

def tInt : Str := [73, 110, 116]
end Go.GB.C11


/-
  D11Q: chapter 11's laws: Possible, Sub, Order.
-/
namespace Go.GB.C11
open Go.GB
set_option linter.unusedSimpArgs false
set_option linter.unusedVariables false
set_option maxRecDepth 100000
set_option maxHeartbeats 2000000
variable {P : Program}

end Go.GB.C11


/-
  GbRi: calls that hand on one's own slices as such.
-/
namespace Go.GB
section
variable {P : Program} {n m : Nat} {R : St → Prop} {draw : Bool} {all : List AO} {after : List (List Nat)} {live : List Nat} {k : List It} {b b' : Nat} {fl : List (Bool × Bool)} {ops : List AO} {st st' : St} {d : Option Nat}
def argsW {α : Type} (st : St) : List Ar → (List V → α) → α
  | [], K => K []
  | x :: r, K => (x.u st).force fun v => argsW st r fun vs => K (v :: vs)
theorem argsW_eq {α : Type} (st : St) : ∀ (l : List Ar) (K : List V → α), argsW st l K = K (argsV st l)
  | [], K => rfl
  | x :: r, K => by simp only [argsW, V.force_eq, argsW_eq st r, argsV]
theorem Mid.callO {f : FuncId} {args : List Ar} {vs vs' : List V} {s1 : List (Nat × AObj)} {m1 : Nat} {out : Out} {v' : V} {ob' : List (Nat × AObj)} {cc : Bool} (r : List Nat) (h : FnOk P f vs ⟨s1, m1⟩ out) (hr : (nodupB r && (r.all (fun k => Nat.blt k b)) && Nat.beq r.length m1) = true)
    (hv : argsW st args some = some vs') (hvs : V.rens (renF r b) vs = vs') (hb : V.bds m1 vs = true) (hs1 : stoBd m1 s1 = true) (hsub : subS (renF r b) st.s.sto s1 m1) (hob : obIn s1 m1 out.n out.ob = true)
    (hv' : out.v.ren (renF r b) = v') (hob' : renOb (renF r b) out.ob = ob') (hcc : forceB (!ob'.isEmpty || decide (0 < out.n)) some = some cc)
    (hst : stepS0 b st d { v := v', ob := ob', n := out.n, rd := true } (fun b' st' => some (b', st')) = some (b', st'))
    (h' : Mid P n m R draw all after live k b' ((true, cc) :: fl) ops st') : Mid P n m R draw all after live k b fl (⟨d, none, .call f args⟩ :: ops) st := by
  simp only [Bool.and_eq_true] at hr
  obtain ⟨⟨hr1, hr2⟩, hr3⟩ := hr
  have hm : r.length = m1 := Nat.eq_of_beq_eq_true hr3
  subst hm
  rw [argsW_eq] at hv
  simp at hv
  refine Mid.opX rfl ?_
  simp only [evX]
  rw [hv, ← hvs]
  have hat := FnOk.ren (renRn (n := out.n) hr1 hr2) h hb hs1 (subS_at hsub) (obIn_at hob)
  rw [hv', ← renOb_eq, hob'] at hat
  simp only [forceB_eq, Option.some.injEq] at hcc
  simp only [stepS0_eq, Option.some.injEq, Prod.mk.injEq] at hst
  obtain ⟨rfl, rfl⟩ := hst
  refine ⟨{ v := v', ob := ob', n := out.n, rd := true }, by simp only [if_true]; exact hat, ?_⟩
  simp only [hcc]
  exact h'
end
end Go.GB


/-
  D11S: contracts of chapter 11's functions: parts of the schema's check.
-/
namespace Go.GB.C11
open Go.GB
set_option linter.unusedSimpArgs false
set_option linter.unusedVariables false
set_option maxRecDepth 100000
set_option maxHeartbeats 2000000
variable {P : Program}

def resF : Str → Bool
  | a :: b :: _ => (a.toNat : Int) == 95 && (b.toNat : Int) == 95
  | _ => false
theorem reserved_ok (H : Pr P) (s : Str) (hs : s.length ≤ 140737488355328) : FnOk P 184 [.t (.str s)] ⟨[], 0⟩ { v := .t (.bool (resF s)) } := by
  match s, hs with
  | [], _ =>
    refine FnOk.run H.i184 H.mixed rfl rfl ?_
    refine fR rfl ?_
    refine Mid.grdF rfl rfl rfl rfl rfl ?_
    refine Mid.grdF rfl rfl rfl rfl rfl ?_
    refine fM rfl ?_
    refine Mid.grdF rfl rfl rfl rfl rfl ?_
    refine Mid.grdF rfl rfl rfl rfl rfl ?_
    refine fM rfl ?_
    refine Run.fin rfl (EndOk.go ?_); exact .t rfl
  | [a], _ =>
    refine FnOk.run H.i184 H.mixed rfl rfl ?_
    refine fR rfl ?_
    refine gr rfl ?_
    refine fM rfl ?_
    refine Mid.grdF rfl rfl rfl rfl rfl ?_
    refine Mid.grdF rfl rfl rfl rfl rfl ?_
    refine fM rfl ?_
    refine Run.fin rfl (EndOk.go ?_); exact .t rfl
  | a :: b :: r, hs =>
    refine FnOk.run H.i184 H.mixed rfl rfl ?_
    refine fR rfl ?_
    refine gr rfl ?_
    refine fM rfl ?_
    refine gr rfl ?_
    refine fM rfl ?_
    refine Run.fin rfl (EndOk.go ?_); exact .t (by
      have : decide (((a :: b :: r).length : Int) ≥ 2) = true := by simp; omega
      rw [this]; rfl)
def allowedF (n : Str) : Bool := nameF n && !resF n
theorem allowed_ok (H : Pr P) (n : Str) (hn : n.length ≤ 140737488355328) : FnOk P 169 [.t (.str n)] ⟨[], 0⟩ { v := .t (.bool (allowedF n)) } := by
  refine FnOk.run H.i169 H.mixed rfl rfl ?_
  refine fR rfl ?_
  refine Mid.call (name_ok H n hn) rfl rfl rfl rfl ?_
  refine fM rfl ?_
  refine caG rfl rfl (fun hg => ⟨_, rfl, reserved_ok H n hn, rfl⟩) rfl rfl ?_
  refine fM rfl ?_
  refine Run.fin rfl (EndOk.go ?_); exact .t rfl
def namesF (n : Str) (bad twice : Bool) (at_ : Str) : List Fault :=
  (if (bad || !allowedF n) = true then [(⟨6, at_⟩ : Fault)] else []) ++ (if twice = true then [(⟨7, at_⟩ : Fault)] else [])
theorem names_ok (H : Pr P) (n : Str) (hn : n.length ≤ 140737488355328) (bad twice : Bool) (at_ : Str) : FnOk P 149 [.t (.str n), .t (.bool bad), .t (.bool twice), .t (.str at_)] ⟨[], 0⟩ { v := .t (.lst ((namesF n bad twice at_).map Fault.enc)) } := by
  refine FnOk.run H.i149 H.mixed rfl rfl ?_
  refine fR rfl ?_
  refine caG rfl rfl (fun hg => ⟨_, rfl, allowed_ok H n hn, rfl⟩) rfl rfl ?_
  refine fM rfl ?_
  refine Run.cond rfl rfl (fun h => ?_) (fun h => ?_)
  · refine fR rfl ?_
    refine apN Fault.enc [(⟨6, at_⟩ : Fault)] rfl rfl rfl ?_ (h1 := by first | omega | (simp; omega) | (simp; done)) (h2 := by first | omega | (simp; omega) | (simp; done))
    refine fM rfl ?_
    cases twice with
    | true =>
      refine Run.condT rfl rfl rfl ?_
      refine fR rfl ?_
      refine apM Fault.enc [(⟨6, at_⟩ : Fault)] [(⟨7, at_⟩ : Fault)] rfl rfl rfl rfl rfl ?_ (h1 := by first | omega | (simp; omega) | (simp; done)) (h2 := by first | omega | (simp; omega) | (simp; done))
      refine fM rfl ?_
      refine Run.fin rfl (EndOk.go ?_); exact .own (by unfold namesF; rw [if_pos h, if_pos rfl])
    | false =>
      refine Run.condF rfl rfl rfl ?_
      refine fR rfl ?_
      refine Run.fin rfl (EndOk.go ?_); exact .own (by unfold namesF; rw [if_pos h, if_neg (by simp)]; rfl)
  · refine fR rfl ?_
    have h' : ¬ (bad || !allowedF n) = true := by rw [h]; simp
    cases twice with
    | true =>
      refine Run.condT rfl rfl rfl ?_
      refine fR rfl ?_
      refine apN Fault.enc [(⟨7, at_⟩ : Fault)] rfl rfl rfl ?_ (h1 := by first | omega | (simp; omega) | (simp; done)) (h2 := by first | omega | (simp; omega) | (simp; done))
      refine fM rfl ?_
      refine Run.fin rfl (EndOk.go ?_); exact .own (by unfold namesF; rw [if_neg h', if_pos rfl]; rfl)
    | false =>
      refine Run.condF rfl rfl rfl ?_
      refine fR rfl ?_
      refine Run.fin rfl (EndOk.go ?_); exact .nil (by unfold namesF; rw [if_neg h', if_neg (by simp)]; rfl)
def emptyF (d : Def) : Bool := if d.kind = 1 ∨ d.kind = 2 then ((d.fields.length : Int) == 0) else if d.kind = 3 ∨ d.kind = 4 then ((d.members.length : Int) == 0) else if d.kind = 5 then ((d.inputs.length : Int) == 0) else false
def knownF (ds : List Def) (n : Str) : Bool := scalF n || (findDef n ds).isSome
theorem known_ok (H : Pr P) (ds : List Def) (hD : DocOk ds) (n : Str) : FnOk P 152 [docV ds, .t (.str n)] ⟨[], 0⟩ { v := .t (.bool (knownF ds n)) } := by
  refine FnOk.run H.i152 H.mixed rfl rfl ?_
  refine fR rfl ?_
  refine Mid.call (rFind_ok H ds hD.l n) rfl rfl rfl rfl ?_
  refine fM rfl ?_
  refine Mid.call (rScalar_ok H n) rfl rfl rfl rfl ?_
  refine fM rfl ?_
  refine Run.fin rfl (EndOk.go ?_); exact .t rfl
def leafF (ds : List Def) (n : Str) : Bool := scalF n || ((findDef n ds).isSome && ((findDef n ds).getD Def.zero).kind == 4)
theorem leaf_ok (H : Pr P) (ds : List Def) (hD : DocOk ds) (n : Str) : FnOk P 172 [docV ds, .t (.str n)] ⟨[], 0⟩ { v := .t (.bool (leafF ds n)) } := by
  refine FnOk.run H.i172 H.mixed rfl rfl ?_
  refine fR rfl ?_
  refine Mid.call (rFind_ok H ds hD.l n) rfl rfl rfl rfl ?_
  refine fM rfl ?_
  refine Mid.call (rScalar_ok H n) rfl rfl rfl rfl ?_
  refine fM rfl ?_
  refine Run.fin rfl (EndOk.go ?_); exact .t rfl
def isInF (ds : List Def) (n : Str) : Bool := leafF ds n || ((findDef n ds).isSome && ((findDef n ds).getD Def.zero).kind == 5)
theorem isInput_ok (H : Pr P) (ds : List Def) (hD : DocOk ds) (n : Str) : FnOk P 154 [docV ds, .t (.str n)] ⟨[], 0⟩ { v := .t (.bool (isInF ds n)) } := by
  refine FnOk.run H.i154 H.mixed rfl rfl ?_
  refine fR rfl ?_
  refine Mid.call (rFind_ok H ds hD.l n) rfl rfl rfl rfl ?_
  refine fM rfl ?_
  refine Mid.call (leaf_ok H ds hD n) rfl rfl rfl rfl ?_
  refine fM rfl ?_
  refine Run.fin rfl (EndOk.go ?_); exact .t rfl
theorem rInputOf_ok (H : Pr P) (l : List Input) (hl : l.length ≤ 140737488355328) (n : Str) : FnOk P 153 [.t (.lst (l.map Input.enc)), .t (.str n)] ⟨[], 0⟩ { v := .tup [Input.v ((findInput n l).getD Input.zero), .t (.bool (findInput n l).isSome)] } := by
  refine FnOk.run H.i153 H.mixed rfl rfl ?_
  refine fR rfl ?_
  refine rList l (fun i (_ : Unit) => { env := [(0, .t (.lst (l.map Input.enc))), (1, .t (.str n)), (4, .ptr 0 0), (6, .t (.int .i64 i))], s := ⟨[(0, .cells [.t (.str []), .t (.str []), .nils, .t (.bool false), .t (.int .i64 0), .t (.int .i64 0), .t (.str []), .nils, .nils, .nils])], 1⟩ }) (fun r i _ => findInput n l = findInput n r) 1 () rfl rfl rfl rfl rfl ?_ ?_
  · intro _ hinv
    refine fR rfl ?_
    refine lM rfl rfl rfl ?_
    refine fM rfl ?_
    refine Run.condF rfl rfl (by simp) ?_
    refine fR rfl ?_
    have e : findInput n l = none := by rw [hinv]; rfl
    rw [e]
    refine Run.fin rfl (EndOk.go ?_); exact .tup2 (.agg (.cons (.t rfl) (.cons (.t rfl) (.cons (.nil rfl) (.cons (.t rfl) (.cons (.t rfl) (.cons (.t rfl) (.cons (.t rfl) (.cons (.nil rfl) (.cons (.nil rfl) (.cons (.nil rfl) .nil))))))))))) (.t rfl)
  · intro i x r _ h1 hi hd hinv ih
    refine fR rfl ?_
    refine lM rfl rfl rfl ?_
    refine fM rfl ?_
    refine Run.condT rfl rfl (by simp; omega) ?_
    refine fR rfl ?_
    refine Mid.elemMap rfl rfl rfl h1 rfl rfl ?_
    refine fM rfl ?_
    refine Run.cond rfl rfl (fun h => ?_) (fun h => ?_)
    · refine fR rfl ?_
      refine Mid.elemMap rfl rfl rfl h1 rfl rfl ?_
      refine fM rfl ?_
      have e : findInput n l = some x := by rw [hinv]; simp only [findInput]; rw [if_pos h]
      rw [e]
      refine Run.fin rfl (EndOk.go ?_); exact .tup2 (.le (.same rfl)) (.t rfl)
    · refine fR rfl ?_
      refine aL rfl rfl rfl rfl rfl ?_
      refine fM rfl ?_
      have h' : ¬ (x.name == n) = true := by rw [h]; simp
      exact rWeak 1 rfl (ih () (by rw [hinv]; simp only [findInput]; rw [if_neg h'])) rfl rfl rfl
theorem empty_ok (H : Pr P) (d : Def) : FnOk P 150 [d.v] ⟨[], 0⟩ { v := .t (.bool (emptyF d)) } := by
  refine FnOk.run H.i150 H.mixed rfl rfl ?_
  refine fR rfl ?_
  refine Run.cond rfl rfl (fun h1 => ?_) (fun h1 => ?_)
  · have e : emptyF d = ((d.fields.length : Int) == 0) := by unfold emptyF; rw [if_pos (.inl (by simpa using h1))]
    skip
    refine Run.condT rfl rfl h1 ?_
    refine fR rfl ?_
    refine lM rfl rfl rfl ?_
    refine fM rfl ?_
    refine Run.fin rfl (EndOk.go ?_); exact .t (by rw [e])
  · have n1 : ¬ d.kind = 1 := by simpa using h1
    refine fR rfl ?_
    refine Run.cond rfl rfl (fun h2 => ?_) (fun h2 => ?_)
    · have e : emptyF d = ((d.fields.length : Int) == 0) := by unfold emptyF; rw [if_pos (.inr (by simpa using h2))]
      refine fR rfl ?_
      refine lM rfl rfl rfl ?_
      refine fM rfl ?_
      refine Run.fin rfl (EndOk.go ?_); exact .t (by rw [e])
    · have n2 : ¬ d.kind = 2 := by simpa using h2
      refine fR rfl ?_
      refine Run.cond rfl rfl (fun h3 => ?_) (fun h3 => ?_)
      · have e : emptyF d = ((d.members.length : Int) == 0) := by unfold emptyF; rw [if_neg (by omega), if_pos (.inl (by simpa using h3))]
        skip
        refine Run.condT rfl rfl h3 ?_
        refine fR rfl ?_
        refine lM rfl rfl rfl ?_
        refine fM rfl ?_
        refine Run.fin rfl (EndOk.go ?_); exact .t (by rw [e])
      · have n3 : ¬ d.kind = 3 := by simpa using h3
        refine fR rfl ?_
        refine Run.cond rfl rfl (fun h4 => ?_) (fun h4 => ?_)
        · have e : emptyF d = ((d.members.length : Int) == 0) := by unfold emptyF; rw [if_neg (by omega), if_pos (.inr (by simpa using h4))]
          refine fR rfl ?_
          refine lM rfl rfl rfl ?_
          refine fM rfl ?_
          refine Run.fin rfl (EndOk.go ?_); exact .t (by rw [e])
        · have n4 : ¬ d.kind = 4 := by simpa using h4
          refine fR rfl ?_
          refine Run.cond rfl rfl (fun h5 => ?_) (fun h5 => ?_)
          · have e : emptyF d = ((d.inputs.length : Int) == 0) := by unfold emptyF; rw [if_neg (by omega), if_neg (by omega), if_pos (by simpa using h5)]
            refine fR rfl ?_
            refine lM rfl rfl rfl ?_
            refine fM rfl ?_
            refine Run.fin rfl (EndOk.go ?_); exact .t (by rw [e])
          · have n5 : ¬ d.kind = 5 := by simpa using h5
            refine fR rfl ?_
            refine Run.fin rfl (EndOk.go ?_); exact .t (by unfold emptyF; rw [if_neg (by omega), if_neg (by omega), if_neg n5])
end Go.GB.C11


/-
  D11T: contracts of chapter 11's functions: inputs that contain themselves.
-/
namespace Go.GB.C11
open Go.GB
set_option linter.unusedSimpArgs false
set_option linter.unusedVariables false
set_option maxRecDepth 100000
set_option maxHeartbeats 2000000
variable {P : Program}

theorem findDef_name {n : Str} : ∀ {l : List Def} {d : Def}, findDef n l = some d → d.name = n
  | [], d, h => by simp [findDef] at h
  | x :: r, d, h => by
    simp only [findDef] at h
    split at h
    · rename_i hx; cases h; simpa using hx
    · exact findDef_name h
theorem has_ok (H : Pr P) (l : List Str) (hl : l.length ≤ 140737488355328) (s : Str) : FnOk P 171 [.t (.lst (l.map sE)), .t (.str s)] ⟨[], 0⟩ { v := .t (.bool (decide (s ∈ l))) } := by
  refine FnOk.run H.i171 H.mixed rfl rfl ?_
  refine fR rfl ?_
  refine rList l (fun i (_ : Unit) => { env := [(0, .t (.lst (l.map sE))), (1, .t (.str s)), (5, .t (.int .i64 i))], s := ⟨[], 0⟩ }) (fun r i _ => decide (s ∈ l) = decide (s ∈ r)) 0 () rfl rfl rfl rfl rfl ?_ ?_
  · intro _ hinv
    refine fR rfl ?_
    refine lM rfl rfl rfl ?_
    refine fM rfl ?_
    refine Run.condF rfl rfl (by simp) ?_
    refine fR rfl ?_
    refine Run.fin rfl (EndOk.go ?_); exact .t (by rw [hinv]; simp)
  · intro i x r _ h1 hi hd hinv ih
    refine fR rfl ?_
    refine lM rfl rfl rfl ?_
    refine fM rfl ?_
    refine Run.condT rfl rfl (by simp; omega) ?_
    refine fR rfl ?_
    refine Mid.elemMap rfl rfl rfl h1 rfl rfl ?_
    refine fM rfl ?_
    refine Run.cond rfl rfl (fun h => ?_) (fun h => ?_)
    · have h' : x = s := by simpa using h
      refine fR rfl ?_
      refine Run.fin rfl (EndOk.go ?_); exact .t (by rw [hinv]; simp [h'])
    · have h' : ¬ x = s := by simpa using h
      have h2 : ¬ s = x := fun e => h' e.symm
      refine fR rfl ?_
      refine aL rfl rfl rfl rfl rfl ?_
      refine fM rfl ?_
      exact rWeak 0 rfl (ih () (by rw [hinv]; simp [h2])) rfl rfl rfl
def dirF : List Int → Bool
  | [] => false
  | w :: r => ((w :: r).length : Int) == 1 && w == 1
theorem direct_ok (H : Pr P) (t : Ref) : FnOk P 185 [t.v] ⟨[], 0⟩ { v := .t (.bool (dirF t.wraps)) } := by
  obtain ⟨n, ws⟩ := t
  match ws with
  | [] =>
    refine FnOk.run H.i185 H.mixed rfl rfl ?_
    refine fR rfl ?_
    refine lM rfl rfl rfl ?_
    refine fM rfl ?_
    refine Mid.grdF rfl rfl rfl rfl rfl ?_
    refine Mid.grdF rfl rfl rfl rfl rfl ?_
    refine Mid.grdF rfl rfl rfl rfl rfl ?_
    refine fM rfl ?_
    refine Run.fin rfl (EndOk.go ?_); exact .t rfl
  | w :: r =>
    have h1 : (w :: r)[0]? = some w := rfl
    refine FnOk.run H.i185 H.mixed rfl rfl ?_
    refine fR rfl ?_
    refine lM rfl rfl rfl ?_
    refine fM rfl ?_
    refine gr rfl ?_
    refine fM rfl ?_
    refine Run.fin rfl (EndOk.go ?_); exact .t rfl
def nextC (ds : List Def) (nm : Str) (x : Input) (l : List Str) : Bool :=
  dirF x.ty.wraps && (x.ty.name == nm || ((findDef x.ty.name ds).isSome && ((findDef x.ty.name ds).getD Def.zero).kind == 5)) && !decide (x.ty.name ∈ l)
def nextF (ds : List Def) (nm : Str) : List Input → List Str → List Str
  | [], l => l
  | x :: r, l => nextF ds nm r (if nextC ds nm x l = true then l ++ [x.ty.name] else l)
theorem next0_ok (H : Pr P) (ds : List Def) (hD : DocOk ds) (d : Def) (hd : d.Ok) (nm : Str) (hl : d.inputs.length ≤ 4398046511104) :
    FnOk P 170 [docV ds, d.v, .t (.str nm), .nils] ⟨[], 0⟩ { v := .own 2 1 ((nextF ds nm d.inputs []).map sE), ob := [(2, .arr (nextF ds nm d.inputs []).length)], n := 3 } := by
  refine FnOk.run H.i170 H.mixed rfl rfl ?_
  refine fR rfl ?_
  refine rList d.inputs (fun i (B : List Str) => { env := [(2, .t (.str nm)), (3, .own 2 1 (B.map sE)), (4, .ptr 0 0), (5, .ptr 1 0), (9, .t (.int .i64 i))], s := ⟨[(0, .cells [.t (.lst (ds.map Def.enc))]), (1, .cells [.t (.int .i64 d.kind), .t (.str d.name), .t (.lst (d.implements.map sE)), .t (.lst (d.dirs.map Dir.enc)), .t (.lst (d.fields.map Field.enc)), .t (.lst (d.members.map Member.enc)), .t (.lst (d.inputs.map Input.enc))]), (2, .arr B.length)], 3⟩ }) (fun r i B => B.length + r.length ≤ 4398046511104 ∧ nextF ds nm d.inputs [] = nextF ds nm r B) 2 [] rfl ⟨by simpa using hl, rfl⟩ rfl rfl rfl ?_ ?_
  · rintro B ⟨_, hB⟩
    have hB' : nextF ds nm d.inputs [] = B := hB
    rw [hB']
    refine fR rfl ?_
    refine lM rfl rfl rfl ?_
    refine fM rfl ?_
    refine Run.condF rfl rfl (by simp) ?_
    refine fR rfl ?_
    refine Run.fin rfl (EndOk.chg rfl rfl ?_ ?_)
    · exact .le (.same rfl)
    · exact (by repeat' (first | exact trivial | exact LeX.t | exact LeX.top | exact LeX.nilOwn (Nat.le_of_ble_eq_true rfl) (Nat.le_of_ble_eq_true rfl) | exact LeX.ownT | exact LeX.nilT | exact LeX.same rfl | exact LeX.tEq (by simp) | exact LeX.ownEq (by simp) (Nat.le_of_ble_eq_true rfl) | exact LeX.tEq (by congr 1 <;> omega) | exact Or.inr ⟨Nat.le_of_ble_eq_true rfl, Nat.le_of_ble_eq_true rfl, rfl⟩ | refine Or.inl ⟨Nat.le_of_ble_eq_true rfl, _, rfl, ?_⟩ | refine LeO.cells ?_ | exact LeO.arr rfl | exact LeO.arr (by simp) | exact LeO.mE (by first | rfl | simp) (by first | exact Or.inl rfl | exact Or.inr rfl) | exact LeO.cE (by first | rfl | simp) | exact LeXs.cE (by first | rfl | simp) | refine LeO.map (by first | rfl | simp) ?_ (by first | exact Or.inl rfl | exact Or.inr rfl) | exact LeO.iter (by first | rfl | simp) (Nat.le_of_ble_eq_true rfl) | refine LeXs.cons ?_ ?_ | exact LeXs.nil | refine And.intro ?_ ?_))
  · rintro i x r B h1 hi hdr ⟨hlB, hB⟩ ih
    simp only [List.length_cons] at hlB
    have hx := hd.n x (List.mem_of_getElem? h1)
    refine fR rfl ?_
    refine lM rfl rfl rfl ?_
    refine fM rfl ?_
    refine Run.condT rfl rfl (by simp; omega) ?_
    refine fR rfl ?_
    refine Mid.elemMap rfl rfl rfl h1 rfl rfl ?_
    refine fM rfl ?_
    refine Mid.call (rFind_ok H ds hD.l x.ty.name) rfl rfl rfl rfl ?_
    refine fM rfl ?_
    refine Mid.call (direct_ok H x.ty) rfl rfl rfl rfl ?_
    refine fM rfl ?_
    refine caG rfl rfl (fun hg => ⟨_, rfl, has_ok H B (by omega) x.ty.name, rfl⟩) rfl rfl ?_
    refine fM rfl ?_
    refine Run.cond rfl rfl (fun hc => ?_) (fun hc => ?_)
    · have e : nextC ds nm x B = true := hc
      refine fR rfl ?_
      refine apM sE B [x.ty.name] rfl rfl rfl rfl rfl ?_ (h1 := by first | omega | (simp; omega) | (simp; done)) (h2 := by first | omega | (simp; omega) | (simp; done))
      refine fM rfl ?_
      refine aL rfl rfl rfl rfl rfl ?_
      refine fM rfl ?_
      exact rWeak 3 rfl (ih (B ++ [x.ty.name]) ⟨by simp; omega, by rw [hB]; simp only [nextF]; rw [if_pos e]⟩) rfl rfl rfl
    · have e : ¬ nextC ds nm x B = true := by rw [show nextC ds nm x B = false from hc]; simp
      refine fR rfl ?_
      refine aL rfl rfl rfl rfl rfl ?_
      refine fM rfl ?_
      exact rWeak 3 rfl (ih B ⟨by omega, by rw [hB]; simp only [nextF]; rw [if_neg e]⟩) rfl rfl rfl
theorem next_ok (H : Pr P) (ds : List Def) (hD : DocOk ds) (d : Def) (hd : d.Ok) (nm : Str) (l : List Str) (hl : l.length + d.inputs.length ≤ 4398046511104) :
    FnOk P 170 [docV ds, d.v, .t (.str nm), .own 0 1 (l.map sE)] ⟨[(0, .arr l.length)], 1⟩ { v := .own 0 1 ((nextF ds nm d.inputs l).map sE), ob := [(0, .arr (nextF ds nm d.inputs l).length)], rd := true } := by
  refine FnOk.run H.i170 H.mixed rfl rfl ?_
  refine fR rfl ?_
  refine rList d.inputs (fun i (B : List Str) => { env := [(2, .t (.str nm)), (3, .own 0 1 (B.map sE)), (4, .ptr 1 0), (5, .ptr 2 0), (9, .t (.int .i64 i))], s := ⟨[(0, .arr B.length), (1, .cells [.t (.lst (ds.map Def.enc))]), (2, .cells [.t (.int .i64 d.kind), .t (.str d.name), .t (.lst (d.implements.map sE)), .t (.lst (d.dirs.map Dir.enc)), .t (.lst (d.fields.map Field.enc)), .t (.lst (d.members.map Member.enc)), .t (.lst (d.inputs.map Input.enc))])], 3⟩ }) (fun r i B => B.length + r.length ≤ 4398046511104 ∧ nextF ds nm d.inputs l = nextF ds nm r B) 3 l rfl ⟨by exact hl, rfl⟩ rfl rfl rfl ?_ ?_
  · rintro B ⟨_, hB⟩
    have hB' : nextF ds nm d.inputs l = B := hB
    rw [hB']
    refine fR rfl ?_
    refine lM rfl rfl rfl ?_
    refine fM rfl ?_
    refine Run.condF rfl rfl (by simp) ?_
    refine fR rfl ?_
    refine Run.fin rfl (EndOk.chg rfl rfl ?_ ?_)
    · exact .le (.same rfl)
    · exact (by repeat' (first | exact trivial | exact LeX.t | exact LeX.top | exact LeX.nilOwn (Nat.le_of_ble_eq_true rfl) (Nat.le_of_ble_eq_true rfl) | exact LeX.ownT | exact LeX.nilT | exact LeX.same rfl | exact LeX.tEq (by simp) | exact LeX.ownEq (by simp) (Nat.le_of_ble_eq_true rfl) | exact LeX.tEq (by congr 1 <;> omega) | exact Or.inr ⟨Nat.le_of_ble_eq_true rfl, Nat.le_of_ble_eq_true rfl, rfl⟩ | refine Or.inl ⟨Nat.le_of_ble_eq_true rfl, _, rfl, ?_⟩ | refine LeO.cells ?_ | exact LeO.arr rfl | exact LeO.arr (by simp) | exact LeO.mE (by first | rfl | simp) (by first | exact Or.inl rfl | exact Or.inr rfl) | exact LeO.cE (by first | rfl | simp) | exact LeXs.cE (by first | rfl | simp) | refine LeO.map (by first | rfl | simp) ?_ (by first | exact Or.inl rfl | exact Or.inr rfl) | exact LeO.iter (by first | rfl | simp) (Nat.le_of_ble_eq_true rfl) | refine LeXs.cons ?_ ?_ | exact LeXs.nil | refine And.intro ?_ ?_))
  · rintro i x r B h1 hi hdr ⟨hlB, hB⟩ ih
    simp only [List.length_cons] at hlB
    have hx := hd.n x (List.mem_of_getElem? h1)
    refine fR rfl ?_
    refine lM rfl rfl rfl ?_
    refine fM rfl ?_
    refine Run.condT rfl rfl (by simp; omega) ?_
    refine fR rfl ?_
    refine Mid.elemMap rfl rfl rfl h1 rfl rfl ?_
    refine fM rfl ?_
    refine Mid.call (rFind_ok H ds hD.l x.ty.name) rfl rfl rfl rfl ?_
    refine fM rfl ?_
    refine Mid.call (direct_ok H x.ty) rfl rfl rfl rfl ?_
    refine fM rfl ?_
    refine caG rfl rfl (fun hg => ⟨_, rfl, has_ok H B (by omega) x.ty.name, rfl⟩) rfl rfl ?_
    refine fM rfl ?_
    refine Run.cond rfl rfl (fun hc => ?_) (fun hc => ?_)
    · have e : nextC ds nm x B = true := hc
      refine fR rfl ?_
      refine apM sE B [x.ty.name] rfl rfl rfl rfl rfl ?_ (h1 := by first | omega | (simp; omega) | (simp; done)) (h2 := by first | omega | (simp; omega) | (simp; done))
      refine fM rfl ?_
      refine aL rfl rfl rfl rfl rfl ?_
      refine fM rfl ?_
      exact rWeak 3 rfl (ih (B ++ [x.ty.name]) ⟨by simp; omega, by rw [hB]; simp only [nextF]; rw [if_pos e]⟩) rfl rfl rfl
    · have e : ¬ nextC ds nm x B = true := by rw [show nextC ds nm x B = false from hc]; simp
      refine fR rfl ?_
      refine aL rfl rfl rfl rfl rfl ?_
      refine fM rfl ?_
      exact rWeak 3 rfl (ih B ⟨by omega, by rw [hB]; simp only [nextF]; rw [if_neg e]⟩) rfl rfl rfl

theorem nextF_le (ds : List Def) (nm : Str) : ∀ (ins : List Input) (l : List Str), l.length ≤ (nextF ds nm ins l).length
  | [], l => Nat.le_refl _
  | x :: r, l => by
    simp only [nextF]
    refine Nat.le_trans ?_ (nextF_le ds nm r _)
    split <;> simp
/- the closure -/
def circF (ds : List Def) (nm : Str) : Nat → Nat → List Str → List Str
  | 0, _, l => l
  | k + 1, i, l => match l[i]? with
    | none => l
    | some n => circF ds nm k (i + 1) (nextF ds nm ((findDef n ds).getD Def.zero).inputs l)
def circB (ds : List Def) (d : Def) : Bool := d.kind == 5 && decide (d.name ∈ circF ds d.name (ds.length + 2) 0 (nextF ds d.name d.inputs []))
structure LOk (ds : List Def) (nm : Str) (l : List Str) : Prop where
  nd : l.Nodup
  mem : ∀ x, x ∈ l → x ∈ nm :: ds.map (fun o => o.name)
theorem nodup_len {α : Type} [BEq α] [LawfulBEq α] : ∀ {l m : List α}, l.Nodup → (∀ x, x ∈ l → x ∈ m) → l.length ≤ m.length
  | [], _, _, _ => by simp
  | a :: r, m, hn, hs => by
    have ha : a ∈ m := hs a (by simp)
    obtain ⟨hn1, hn2⟩ := List.nodup_cons.1 hn
    have h1 := nodup_len (l := r) (m := m.erase a) hn2 (fun x hx => by
      have hne : x ≠ a := by rintro rfl; exact hn1 hx
      exact (List.mem_erase_of_ne hne).2 (hs x (List.mem_cons_of_mem _ hx)))
    have h2 := List.length_erase_of_mem ha
    have h3 : 0 < m.length := List.length_pos_of_mem ha
    simp only [List.length_cons]; omega
theorem LOk.len {ds : List Def} {nm : Str} {l : List Str} (h : LOk ds nm l) : l.length ≤ ds.length + 1 := by
  have := nodup_len h.nd h.mem
  simpa using this
theorem nextF_ok {ds : List Def} {nm : Str} : ∀ {ins : List Input} {l : List Str}, LOk ds nm l → LOk ds nm (nextF ds nm ins l)
  | [], l, h => h
  | x :: r, l, h => by
    simp only [nextF]
    split
    · rename_i hc
      refine nextF_ok ⟨?_, ?_⟩
      · unfold nextC at hc
        simp only [Bool.and_eq_true] at hc
        have hn : ¬ x.ty.name ∈ l := by simpa using hc.2
        rw [List.nodup_append]
        exact ⟨h.nd, by simp, fun a ha b hb e => by simp at hb; subst hb; subst e; exact hn ha⟩
      · intro y hy
        rcases List.mem_append.1 hy with hy | hy
        · exact h.mem y hy
        · simp at hy; subst hy
          unfold nextC at hc
          simp only [Bool.and_eq_true, Bool.or_eq_true, beq_iff_eq] at hc
          rcases hc.1.2 with e | e
          · rw [e]; simp
          · cases hf : findDef x.ty.name ds with
            | none => rw [hf] at e; simp at e
            | some o =>
              have h1 := findDef_mem hf
              have h2 := findDef_name hf
              rw [← h2]
              exact List.mem_cons_of_mem _ (List.mem_map.2 ⟨o, h1, rfl⟩)
    · exact nextF_ok h
theorem circular_ok (H : Pr P) (ds : List Def) (hD : DocOk ds) (d : Def) (hd : d.Ok) (hil : ∀ o, o ∈ d :: ds → o.inputs.length ≤ 2199023255552) : FnOk P 151 [docV ds, d.v] ⟨[], 0⟩ { v := .t (.bool (circB ds d)) } := by
  have hlb := hD.lb
  have hz : ∀ n, ((findDef n ds).getD Def.zero).inputs.length ≤ 2199023255552 := by
    intro n
    cases hf : findDef n ds with
    | none => simp [Def.zero]
    | some o => exact hil o (List.mem_cons_of_mem _ (findDef_mem hf))
  refine FnOk.run H.i151 H.mixed rfl rfl ?_
  refine fR rfl ?_
  refine Run.cond rfl rfl (fun hk => ?_) (fun hk => ?_)
  · have e : circB ds d = false := by unfold circB; rw [show (d.kind == 5) = false from by simpa using hk]; rfl
    refine fR rfl ?_
    refine Run.fin rfl (EndOk.go ?_); exact .t (by rw [e])
  · have hk' : (d.kind == 5) = true := by simpa using hk
    refine fR rfl ?_
    have h0 : LOk ds d.name (nextF ds d.name d.inputs []) := nextF_ok ⟨List.nodup_nil, by simp⟩
    refine Mid.callO [] (next0_ok H ds hD d hd d.name (by have := hil d (by simp); omega)) rfl rfl rfl rfl (by simp [stoBd]) (by repeat' (first | exact trivial | exact rfl | refine And.intro ?_ ?_ | exact (congrArg some (AObj.ren_mE _ _ _ _ _ _)).symm | exact (congrArg some (AObj.ren_cE _ _ _)).symm)) rfl rfl (ob' := [(4, .arr (nextF ds d.name d.inputs []).length)]) (rfl) rfl rfl ?_
    refine fM rfl ?_
    have eB : circB ds d = decide (d.name ∈ circF ds d.name (ds.length + 2) 0 (nextF ds d.name d.inputs [])) := by unfold circB; rw [hk']; rfl
    generalize hC : circF ds d.name (ds.length + 2) 0 (nextF ds d.name d.inputs []) = C at eB
    have hN : ∀ (i : Nat) (l : List Str), LOk ds d.name l → i ≤ l.length → ds.length + 2 - i = (ds.length + 1 - i) + 1 := by
      intro i l hl hi
      have := hl.len; omega
    refine rLoopM (β := Nat × List Str) (fun b => { env := [(2, .ptr 0 0), (3, .ptr 1 0), (5, .own 4 1 (b.2.map sE)), (6, .t (.int .i64 b.1))], s := ⟨[(0, .cells [.t (.lst (ds.map Def.enc))]), (1, .cells [.t (.int .i64 d.kind), .t (.str d.name), .t (.lst (d.implements.map sE)), .t (.lst (d.dirs.map Dir.enc)), .t (.lst (d.fields.map Field.enc)), .t (.lst (d.members.map Member.enc)), .t (.lst (d.inputs.map Input.enc))]), (4, .arr b.2.length)], 5⟩ })
      (fun b => LOk ds d.name b.2 ∧ b.1 ≤ b.2.length ∧ C = circF ds d.name (ds.length + 2 - b.1) b.1 b.2) (fun b => ds.length + 2 - b.1) 5 (0, nextF ds d.name d.inputs []) rfl ⟨h0, by simp, hC.symm⟩ rfl rfl rfl ?_
    rintro ⟨i, l⟩ ⟨hl, hi, hinv⟩ ih
    dsimp only at hl hi hinv ih ⊢
    have hlen := hl.len
    have hN' := hN i l hl hi
    rw [hN'] at hinv
    refine fR rfl ?_
    refine lM rfl rfl rfl ?_
    refine fM rfl ?_
    by_cases hlt : i < l.length
    · refine Run.condT rfl rfl (by simp; omega) ?_
      have hg : l[i]? = some l[i] := List.getElem?_eq_getElem hlt
      generalize l[i] = n at hg
      have hF := docFind hD n
      have hnx : LOk ds d.name (nextF ds d.name ((findDef n ds).getD Def.zero).inputs l) := nextF_ok hl
      simp only [circF, hg] at hinv
      have hzn := hz n
      refine fR rfl ?_
      refine Mid.elemMap rfl rfl rfl hg rfl rfl ?_
      refine fM rfl ?_
      refine Mid.call (rFind_ok H ds hD.l n) rfl rfl rfl rfl ?_
      refine fM rfl ?_
      refine Mid.callO [4] (next_ok H ds hD ((findDef n ds).getD Def.zero) hF d.name l (by omega)) rfl rfl rfl rfl (by simp [stoBd]; simp [AObj.bd]) (by repeat' (first | exact trivial | exact rfl | refine And.intro ?_ ?_ | exact (congrArg some (AObj.ren_mE _ _ _ _ _ _)).symm | exact (congrArg some (AObj.ren_cE _ _ _)).symm)) rfl rfl (ob' := [(4, .arr (nextF ds d.name ((findDef n ds).getD Def.zero).inputs l).length)]) (rfl) rfl rfl ?_
      refine fM rfl ?_
      refine aL rfl rfl rfl rfl rfl ?_
      refine fM rfl ?_
      exact rWeak 5 rfl (ih (i + 1, nextF ds d.name ((findDef n ds).getD Def.zero).inputs l) (by simp only; omega) ⟨hnx, by simp only; have := nextF_le ds d.name ((findDef n ds).getD Def.zero).inputs l; omega, by rw [hinv]; simp only; congr 1; omega⟩) rfl rfl rfl
    · refine Run.condF rfl rfl (by simp; omega) ?_
      have hg : l[i]? = none := List.getElem?_eq_none (by omega)
      simp only [circF, hg] at hinv
      refine fR rfl ?_
      refine Mid.call (has_ok H l (by omega) d.name) rfl rfl rfl rfl ?_
      refine fM rfl ?_
      refine Run.fin rfl (EndOk.go ?_); exact .t (by rw [eB, hinv])
end Go.GB.C11


/-
  D11U: contracts of chapter 11's functions: the parts of the schema's check.
-/
namespace Go.GB.C11
open Go.GB
set_option linter.unusedSimpArgs false
set_option linter.unusedVariables false
set_option maxRecDepth 100000
set_option maxHeartbeats 2000000
variable {P : Program}

theorem namesO_ok (H : Pr P) (n : Str) (hn : n.length ≤ 140737488355328) (bad twice : Bool) (at_ : Str) : FnOk P 149 [.t (.str n), .t (.bool bad), .t (.bool twice), .t (.str at_)] ⟨[], 0⟩ { v := .own 0 2 ((namesF n bad twice at_).map Fault.enc), ob := [(0, .arr (namesF n bad twice at_).length)], n := 1 } := by
  refine FnOk.run H.i149 H.mixed rfl rfl ?_
  refine fR rfl ?_
  refine caG rfl rfl (fun hg => ⟨_, rfl, allowed_ok H n hn, rfl⟩) rfl rfl ?_
  refine fM rfl ?_
  refine Run.cond rfl rfl (fun h => ?_) (fun h => ?_)
  · refine fR rfl ?_
    refine apN Fault.enc [(⟨6, at_⟩ : Fault)] rfl rfl rfl ?_ (h1 := by first | omega | (simp; omega) | (simp; done)) (h2 := by first | omega | (simp; omega) | (simp; done))
    refine fM rfl ?_
    cases twice with
    | true =>
      refine Run.condT rfl rfl rfl ?_
      refine fR rfl ?_
      refine apM Fault.enc [(⟨6, at_⟩ : Fault)] [(⟨7, at_⟩ : Fault)] rfl rfl rfl rfl rfl ?_ (h1 := by first | omega | (simp; omega) | (simp; done)) (h2 := by first | omega | (simp; omega) | (simp; done))
      refine fM rfl ?_
      have e : namesF n bad true at_ = [⟨6, at_⟩] ++ [⟨7, at_⟩] := by unfold namesF; rw [if_pos h, if_pos rfl]
      rw [e]
      refine Run.fin rfl (EndOk.chg rfl rfl ?_ ?_)
      · exact .le (.same rfl)
      · exact (by repeat' (first | exact trivial | exact LeX.t | exact LeX.top | exact LeX.nilOwn (Nat.le_of_ble_eq_true rfl) (Nat.le_of_ble_eq_true rfl) | exact LeX.ownT | exact LeX.nilT | exact LeX.same rfl | exact LeX.tEq (by simp) | exact LeX.ownEq (by simp) (Nat.le_of_ble_eq_true rfl) | exact LeX.tEq (by congr 1 <;> omega) | exact Or.inr ⟨Nat.le_of_ble_eq_true rfl, Nat.le_of_ble_eq_true rfl, rfl⟩ | refine Or.inl ⟨Nat.le_of_ble_eq_true rfl, _, rfl, ?_⟩ | refine LeO.cells ?_ | exact LeO.arr rfl | exact LeO.arr (by simp) | exact LeO.mE (by first | rfl | simp) (by first | exact Or.inl rfl | exact Or.inr rfl) | exact LeO.cE (by first | rfl | simp) | exact LeXs.cE (by first | rfl | simp) | refine LeO.map (by first | rfl | simp) ?_ (by first | exact Or.inl rfl | exact Or.inr rfl) | exact LeO.iter (by first | rfl | simp) (Nat.le_of_ble_eq_true rfl) | refine LeXs.cons ?_ ?_ | exact LeXs.nil | refine And.intro ?_ ?_))
    | false =>
      refine Run.condF rfl rfl rfl ?_
      refine fR rfl ?_
      have e : namesF n bad false at_ = [⟨6, at_⟩] := by unfold namesF; rw [if_pos h, if_neg (by simp)]; rfl
      rw [e]
      refine Run.fin rfl (EndOk.chg rfl rfl ?_ ?_)
      · exact .le (.same rfl)
      · exact (by repeat' (first | exact trivial | exact LeX.t | exact LeX.top | exact LeX.nilOwn (Nat.le_of_ble_eq_true rfl) (Nat.le_of_ble_eq_true rfl) | exact LeX.ownT | exact LeX.nilT | exact LeX.same rfl | exact LeX.tEq (by simp) | exact LeX.ownEq (by simp) (Nat.le_of_ble_eq_true rfl) | exact LeX.tEq (by congr 1 <;> omega) | exact Or.inr ⟨Nat.le_of_ble_eq_true rfl, Nat.le_of_ble_eq_true rfl, rfl⟩ | refine Or.inl ⟨Nat.le_of_ble_eq_true rfl, _, rfl, ?_⟩ | refine LeO.cells ?_ | exact LeO.arr rfl | exact LeO.arr (by simp) | exact LeO.mE (by first | rfl | simp) (by first | exact Or.inl rfl | exact Or.inr rfl) | exact LeO.cE (by first | rfl | simp) | exact LeXs.cE (by first | rfl | simp) | refine LeO.map (by first | rfl | simp) ?_ (by first | exact Or.inl rfl | exact Or.inr rfl) | exact LeO.iter (by first | rfl | simp) (Nat.le_of_ble_eq_true rfl) | refine LeXs.cons ?_ ?_ | exact LeXs.nil | refine And.intro ?_ ?_))
  · refine fR rfl ?_
    have h' : ¬ (bad || !allowedF n) = true := by rw [h]; simp
    refine rWeakC 0 rfl (st' := { env := [(3, .t (.str at_)), (9, .own 0 2 ([].map Fault.enc)), (21, .t (.bool twice))], s := ⟨[(0, .arr 0)], 1⟩ }) ?_ rfl rfl rfl
    cases twice with
    | true =>
      refine Run.condT rfl rfl rfl ?_
      refine fR rfl ?_
      refine apM Fault.enc [] [(⟨7, at_⟩ : Fault)] rfl rfl rfl rfl rfl ?_ (h1 := by first | omega | (simp; omega) | (simp; done)) (h2 := by first | omega | (simp; omega) | (simp; done))
      refine fM rfl ?_
      have e : namesF n bad true at_ = [⟨7, at_⟩] := by unfold namesF; rw [if_neg h', if_pos rfl]; rfl
      rw [e]
      refine Run.fin rfl (EndOk.chg rfl rfl ?_ ?_)
      · exact .le (.same rfl)
      · exact (by repeat' (first | exact trivial | exact LeX.t | exact LeX.top | exact LeX.nilOwn (Nat.le_of_ble_eq_true rfl) (Nat.le_of_ble_eq_true rfl) | exact LeX.ownT | exact LeX.nilT | exact LeX.same rfl | exact LeX.tEq (by simp) | exact LeX.ownEq (by simp) (Nat.le_of_ble_eq_true rfl) | exact LeX.tEq (by congr 1 <;> omega) | exact Or.inr ⟨Nat.le_of_ble_eq_true rfl, Nat.le_of_ble_eq_true rfl, rfl⟩ | refine Or.inl ⟨Nat.le_of_ble_eq_true rfl, _, rfl, ?_⟩ | refine LeO.cells ?_ | exact LeO.arr rfl | exact LeO.arr (by simp) | exact LeO.mE (by first | rfl | simp) (by first | exact Or.inl rfl | exact Or.inr rfl) | exact LeO.cE (by first | rfl | simp) | exact LeXs.cE (by first | rfl | simp) | refine LeO.map (by first | rfl | simp) ?_ (by first | exact Or.inl rfl | exact Or.inr rfl) | exact LeO.iter (by first | rfl | simp) (Nat.le_of_ble_eq_true rfl) | refine LeXs.cons ?_ ?_ | exact LeXs.nil | refine And.intro ?_ ?_))
    | false =>
      refine Run.condF rfl rfl rfl ?_
      refine fR rfl ?_
      have e : namesF n bad false at_ = [] := by unfold namesF; rw [if_neg h', if_neg (by simp)]; rfl
      rw [e]
      refine Run.fin rfl (EndOk.chg rfl rfl ?_ ?_)
      · exact .le (.same rfl)
      · exact (by repeat' (first | exact trivial | exact LeX.t | exact LeX.top | exact LeX.nilOwn (Nat.le_of_ble_eq_true rfl) (Nat.le_of_ble_eq_true rfl) | exact LeX.ownT | exact LeX.nilT | exact LeX.same rfl | exact LeX.tEq (by simp) | exact LeX.ownEq (by simp) (Nat.le_of_ble_eq_true rfl) | exact LeX.tEq (by congr 1 <;> omega) | exact Or.inr ⟨Nat.le_of_ble_eq_true rfl, Nat.le_of_ble_eq_true rfl, rfl⟩ | refine Or.inl ⟨Nat.le_of_ble_eq_true rfl, _, rfl, ?_⟩ | refine LeO.cells ?_ | exact LeO.arr rfl | exact LeO.arr (by simp) | exact LeO.mE (by first | rfl | simp) (by first | exact Or.inl rfl | exact Or.inr rfl) | exact LeO.cE (by first | rfl | simp) | exact LeXs.cE (by first | rfl | simp) | refine LeO.map (by first | rfl | simp) ?_ (by first | exact Or.inl rfl | exact Or.inr rfl) | exact LeO.iter (by first | rfl | simp) (Nat.le_of_ble_eq_true rfl) | refine LeXs.cons ?_ ?_ | exact LeXs.nil | refine And.intro ?_ ?_))
def rootS (n : Str) : Bool := n == [81, 117, 101, 114, 121] || n == [77, 117, 116, 97, 116, 105, 111, 110] || n == [83, 117, 98, 115, 99, 114, 105, 112, 116, 105, 111, 110]
def badKind (d : Def) : Bool := (rootS d.name && d.kind != 1) || decide (d.kind < 1) || decide (d.kind > 5)
def twiceF (ds : List Def) (i : Nat) (n : Str) : Bool := scalF n || (ds.take i).any fun o => o.name == n
def wholeF (ds : List Def) (i : Nat) (d : Def) : List Fault :=
  namesF d.name false (twiceF ds i d.name) d.name ++ (if emptyF d = true then [⟨8, d.name⟩] else []) ++ (if badKind d = true then [⟨9, d.name⟩] else []) ++ (if circB ds d = true then [⟨5, d.name⟩] else [])
theorem namesF_len (n : Str) (a b : Bool) (s : Str) : (namesF n a b s).length ≤ 2 := by
  unfold namesF; split <;> split <;> simp
theorem whole_ok (H : Pr P) (ds : List Def) (hD : DocOk ds) (hil : ∀ o, o ∈ ds → o.inputs.length ≤ 2199023255552) (i : Nat) (d : Def) (h : ds[i]? = some d) : FnOk P 102 [docV ds, .t (.int .i64 i)] ⟨[], 0⟩ { v := .t (.lst ((wholeF ds i d).map Fault.enc)) } := by
  have hdm := List.mem_of_getElem? h
  have hd := hD.d d hdm
  have hnm := hd.nm
  have hdl := hD.l
  have hi : i < ds.length := (List.getElem?_eq_some_iff.1 h).1
  have hnl := namesF_len d.name false (twiceF ds i d.name) d.name
  have e0 : twiceF ds i d.name = (scalF d.name || (ds.take i).any fun o => o.name == d.name) := rfl
  refine FnOk.run H.i102 H.mixed rfl rfl ?_
  refine fR rfl ?_
  refine Mid.elemMap rfl rfl rfl h rfl rfl ?_
  refine fM rfl ?_
  refine Mid.call (rScalar_ok H d.name) rfl rfl rfl rfl ?_
  refine fM rfl ?_
  refine rList (ds.take i) (fun j (B : Bool) => { env := [(1, .t (.int .i64 i)), (2, .ptr 0 0), (5, .ptr 1 0), (6, .t (.bool B)), (7, .t (.int .i64 j))], s := ⟨[(0, .cells [.t (.lst (ds.map Def.enc))]), (1, .cells [.t (.int .i64 d.kind), .t (.str d.name), .t (.lst (d.implements.map sE)), .t (.lst (d.dirs.map Dir.enc)), .t (.lst (d.fields.map Field.enc)), .t (.lst (d.members.map Member.enc)), .t (.lst (d.inputs.map Input.enc))])], 2⟩ }) (fun r j B => twiceF ds i d.name = (B || r.any fun o => o.name == d.name)) 2 (scalF d.name) rfl e0 rfl rfl rfl ?_ ?_
  · intro B hB
    have hl : (ds.take i).length = i := by simp; omega
    have hB' : twiceF ds i d.name = B := by rw [hB]; simp
    rw [hl]
    have t0 : ∀ L : List Fault, L.length ≤ 5 → L = wholeF ds i d → Run P n102 0 (EndOk ⟨[], 0⟩ { v := .t (.lst ((wholeF ds i d).map Fault.enc)) } r102 .ret) (advK 200 [It.c c102_0]) { env := [(8, .own 2 2 (L.map Fault.enc))], s := ⟨[(2, .arr L.length)], 3⟩ } := by
      rintro L hLl rfl
      refine fR rfl ?_
      refine Run.fin rfl (EndOk.go ?_); exact .own rfl
    have t3 : ∀ L : List Fault, L.length ≤ 4 → L ++ (if circB ds d = true then [⟨5, d.name⟩] else []) = wholeF ds i d → Run P n102 0 (EndOk ⟨[], 0⟩ { v := .t (.lst ((wholeF ds i d).map Fault.enc)) } r102 .ret) (advK 200 [It.c c102_3]) { env := [(2, .ptr 0 0), (5, .ptr 1 0), (8, .own 2 2 (L.map Fault.enc))], s := ⟨[(0, .cells [.t (.lst (ds.map Def.enc))]), (1, .cells [.t (.int .i64 d.kind), .t (.str d.name), .t (.lst (d.implements.map sE)), .t (.lst (d.dirs.map Dir.enc)), .t (.lst (d.fields.map Field.enc)), .t (.lst (d.members.map Member.enc)), .t (.lst (d.inputs.map Input.enc))]), (2, .arr L.length)], 3⟩ } := by
      rintro L hLl hL
      refine fR rfl ?_
      refine Mid.call (circular_ok H ds hD d hd (by intro o ho; rcases List.mem_cons.1 ho with rfl | ho; exact hil _ hdm; exact hil _ ho)) rfl rfl rfl rfl ?_
      refine fM rfl ?_
      refine Run.cond rfl rfl (fun hc => ?_) (fun hc => ?_)
      · refine fR rfl ?_
        refine apM Fault.enc L [(⟨5, d.name⟩ : Fault)] rfl rfl rfl rfl rfl ?_ (h1 := by simp; omega) (h2 := by simp; omega)
        refine Mid.fast (f := 1) rfl trivial ?_
        refine Mid.done0 rfl ?_
        exact rWeakC 3 rfl (t0 (L ++ [⟨5, d.name⟩]) (by simp; omega) (by rw [← hL, if_pos (show circB ds d = true from hc)] <;> simp)) rfl rfl rfl
      · exact rWeakC 3 rfl (t0 L (by omega) (by rw [← hL, if_neg (show ¬ circB ds d = true by rw [show circB ds d = false from hc]; simp)] <;> simp)) rfl rfl rfl
    have t7 : ∀ L : List Fault, L.length ≤ 3 → L ++ (if badKind d = true then [⟨9, d.name⟩] else []) ++ (if circB ds d = true then [⟨5, d.name⟩] else []) = wholeF ds i d → Run P n102 0 (EndOk ⟨[], 0⟩ { v := .t (.lst ((wholeF ds i d).map Fault.enc)) } r102 .ret) (advK 200 [It.c c102_7]) { env := [(2, .ptr 0 0), (5, .ptr 1 0), (8, .own 2 2 (L.map Fault.enc))], s := ⟨[(0, .cells [.t (.lst (ds.map Def.enc))]), (1, .cells [.t (.int .i64 d.kind), .t (.str d.name), .t (.lst (d.implements.map sE)), .t (.lst (d.dirs.map Dir.enc)), .t (.lst (d.fields.map Field.enc)), .t (.lst (d.members.map Member.enc)), .t (.lst (d.inputs.map Input.enc))]), (2, .arr L.length)], 3⟩ } := by
      rintro L hLl hL
      refine fR rfl ?_
      refine Run.cond rfl rfl (fun hb => ?_) (fun hb => ?_)
      · refine fR rfl ?_
        refine apM Fault.enc L [(⟨9, d.name⟩ : Fault)] rfl rfl rfl rfl rfl ?_ (h1 := by simp; omega) (h2 := by simp; omega)
        refine Mid.fast (f := 1) rfl trivial ?_
        refine Mid.done0 rfl ?_
        exact rWeakC 3 rfl (t3 (L ++ [⟨9, d.name⟩]) (by simp; omega) (by rw [← hL, if_pos (show badKind d = true from hb)] <;> simp)) rfl rfl rfl
      · exact rWeakC 3 rfl (t3 L (by omega) (by rw [← hL, if_neg (show ¬ badKind d = true by rw [show badKind d = false from hb]; simp)] <;> simp)) rfl rfl rfl
    refine fR rfl ?_
    refine Run.condF rfl rfl (by simp) ?_
    refine fR rfl ?_
    rw [hB'] at hnl
    refine Mid.callO [] (namesO_ok H d.name hnm false B d.name) rfl rfl rfl rfl (by simp [stoBd]) (by repeat' (first | exact trivial | exact rfl | refine And.intro ?_ ?_ | exact (congrArg some (AObj.ren_mE _ _ _ _ _ _)).symm | exact (congrArg some (AObj.ren_cE _ _ _)).symm)) rfl rfl (ob' := [(2, .arr (namesF d.name false B d.name).length)]) (rfl) rfl rfl ?_
    refine fM rfl ?_
    refine Mid.call (empty_ok H d) rfl rfl rfl rfl ?_
    refine fM rfl ?_
    have hL : namesF d.name false B d.name ++ (if emptyF d = true then [⟨8, d.name⟩] else []) ++ (if badKind d = true then [⟨9, d.name⟩] else []) ++ (if circB ds d = true then [⟨5, d.name⟩] else []) = wholeF ds i d := by unfold wholeF; rw [hB']
    generalize namesF d.name false B d.name = L at hL hnl
    refine Run.cond rfl rfl (fun he => ?_) (fun he => ?_)
    · refine fR rfl ?_
      refine apM Fault.enc L [(⟨8, d.name⟩ : Fault)] rfl rfl rfl rfl rfl ?_ (h1 := by simp; omega) (h2 := by simp; omega)
      refine Mid.fast (f := 1) rfl trivial ?_
      refine Mid.done0 rfl ?_
      exact rWeakC 3 rfl (t7 (L ++ [⟨8, d.name⟩]) (by simp; omega) (by rw [← hL, if_pos (show emptyF d = true from he)] <;> simp)) rfl rfl rfl
    · exact rWeakC 3 rfl (t7 L (by omega) (by rw [← hL, if_neg (show ¬ emptyF d = true by rw [show emptyF d = false from he]; simp)] <;> simp)) rfl rfl rfl
  · intro j o r B h1 hj hjd hB ih
    have hji : j < i := by simp at hj; omega
    have ho : ds[j]? = some o := by rw [List.getElem?_take] at h1; rw [if_pos hji] at h1; exact h1
    have hjl : j < ds.length := by omega
    refine fR rfl ?_
    refine Run.condT rfl rfl (by simp; omega) ?_
    refine fR rfl ?_
    refine elG rfl rfl rfl rfl ho rfl rfl ?_
    refine fM rfl ?_
    refine aL rfl rfl rfl rfl rfl ?_
    refine fM rfl ?_
    exact rWeak 2 rfl (ih (B || o.name == d.name) (by rw [hB]; simp only [List.any_cons]; cases B <;> simp)) rfl rfl rfl
end Go.GB.C11


/-
  D11V: contracts of chapter 11's functions: the lists of the schema's check.
-/
namespace Go.GB.C11
open Go.GB
set_option linter.unusedSimpArgs false
set_option linter.unusedVariables false
set_option maxRecDepth 100000
set_option maxHeartbeats 2000000
variable {P : Program}

def inOne (ds : List Def) (p : List Input) (x : Input) (at_ : Str) : List Fault :=
  namesF x.name false (findInput x.name p).isSome at_ ++ (if knownF ds x.ty.name = false then [⟨8, at_⟩] else if isInF ds x.ty.name = false then [⟨10, at_⟩] else [])
def inF (ds : List Def) (pre post : Str) : List Input → List Input → List Fault
  | _, [] => []
  | p, x :: r => inOne ds p x (pre ++ x.name ++ post) ++ inF ds pre post (p ++ [x]) r
theorem inputs_ok (H : Pr P) (ds : List Def) (hD : DocOk ds) (l : List Input) (hl : l.length ≤ 140737488355328) (hlo : ∀ y, y ∈ l → y.Ok) (pre post : Str) (hp : pre.length ≤ 1125899906842624) (hq : post.length ≤ 1125899906842624) (ht : (inF ds pre post [] l).length ≤ 4398046511104) :
    FnOk P 105 [docV ds, .t (.lst (l.map Input.enc)), .t (.str pre), .t (.str post)] ⟨[], 0⟩ { v := .t (.lst ((inF ds pre post [] l).map Fault.enc)) } := by
  generalize hT : inF ds pre post [] l = tot at ht
  refine FnOk.run H.i105 H.mixed rfl rfl ?_
  refine fR rfl ?_
  refine rList l (fun i (B : List Fault) => { env := [(1, .t (.lst (l.map Input.enc))), (2, .t (.str pre)), (3, .t (.str post)), (4, .ptr 0 0), (9, .own 1 2 (B.map Fault.enc)), (10, .t (.int .i64 i))], s := ⟨[(0, .cells [.t (.lst (ds.map Def.enc))]), (1, .arr B.length)], 2⟩ }) (fun r i B => B ++ inF ds pre post (l.take i) r = tot) 1 [] rfl (by simpa using hT) rfl rfl rfl ?_ ?_
  · rintro B hB
    obtain rfl : B = tot := by rw [← hB]; simp [inF]
    refine fR rfl ?_
    refine lM rfl rfl rfl ?_
    refine fM rfl ?_
    refine Run.condF rfl rfl (by simp) ?_
    refine fR rfl ?_
    refine Run.fin rfl (EndOk.go ?_); exact .own rfl
  · rintro i x r B h1 hi hd hB ih
    have hx := hlo x (List.mem_of_getElem? h1)
    have hxn := hx.nm
    have htk : l.take i ++ [x] = l.take (i + 1) := by rw [List.take_add_one, h1]; rfl
    have htkl : (l.take i).length ≤ 140737488355328 := by simp; omega
    simp only [inF, inOne, htk] at hB
    generalize hAt : pre ++ x.name ++ post = at_ at hB
    have hatl : at_.length ≤ 4503599627370496 := by rw [← hAt]; simp; omega
    have hlen := congrArg List.length hB
    simp only [List.length_append] at hlen
    refine fR rfl ?_
    refine lM rfl rfl rfl ?_
    refine fM rfl ?_
    refine Run.condT rfl rfl (by simp; omega) ?_
    refine fR rfl ?_
    refine Mid.elemMap rfl rfl rfl h1 rfl rfl ?_
    refine fM rfl ?_
    refine pu rfl ?_
    refine fM rfl ?_
    refine pu rfl ?_
    refine fM rfl ?_
    refine lTo rfl rfl rfl rfl ?_
    refine fM rfl ?_
    rw [hAt]
    refine Mid.elemMap rfl rfl rfl h1 rfl rfl ?_
    refine fM rfl ?_
    refine Mid.call (rInputOf_ok H (l.take i) htkl x.name) rfl rfl rfl rfl ?_
    refine fM rfl ?_
    refine Mid.elemMap rfl rfl rfl h1 rfl rfl ?_
    refine fM rfl ?_
    refine Mid.call (names_ok H x.name hxn false (findInput x.name (l.take i)).isSome at_) rfl rfl rfl rfl ?_
    skip
    generalize namesF x.name false (findInput x.name (l.take i)).isSome at_ = N at hB hlen
    refine apM Fault.enc B N rfl rfl rfl rfl rfl ?_ (h1 := by first | omega | (simp; omega) | (simp; done)) (h2 := by first | omega | (simp; omega) | (simp; done))
    refine fM rfl ?_
    refine Mid.elemMap rfl rfl rfl h1 rfl rfl ?_
    refine fM rfl ?_
    refine Mid.call (known_ok H ds hD x.ty.name) rfl rfl rfl rfl ?_
    refine fM rfl ?_
    refine Run.cond rfl rfl (fun hk => ?_) (fun hk => ?_)
    · have hk' : knownF ds x.ty.name = false := by simpa using hk
      rw [if_pos hk'] at hB hlen
      simp only [List.length_cons, List.length_nil] at hlen
      refine fR rfl ?_
      refine apM Fault.enc (B ++ N) [(⟨8, at_⟩ : Fault)] rfl rfl rfl rfl rfl ?_ (h1 := by first | omega | (simp; omega) | (simp; done)) (h2 := by first | omega | (simp; omega) | (simp; done))
      refine fM rfl ?_
      refine aL rfl rfl rfl rfl rfl ?_
      refine fM rfl ?_
      exact rWeak 2 rfl (ih (B ++ N ++ [⟨8, at_⟩]) (by rw [← hB]; simp)) rfl rfl rfl
    · have hk' : ¬ knownF ds x.ty.name = false := by simpa using hk
      rw [if_neg hk'] at hB hlen
      refine fR rfl ?_
      refine Mid.elemMap rfl rfl rfl h1 rfl rfl ?_
      refine fM rfl ?_
      refine Mid.call (isInput_ok H ds hD x.ty.name) rfl rfl rfl rfl ?_
      refine fM rfl ?_
      refine Run.cond rfl rfl (fun hy => ?_) (fun hy => ?_)
      · have hy' : isInF ds x.ty.name = false := by simpa using hy
        rw [if_pos hy'] at hB hlen
        simp only [List.length_cons, List.length_nil] at hlen
        refine fR rfl ?_
        refine apM Fault.enc (B ++ N) [(⟨10, at_⟩ : Fault)] rfl rfl rfl rfl rfl ?_ (h1 := by first | omega | (simp; omega) | (simp; done)) (h2 := by first | omega | (simp; omega) | (simp; done))
        refine fM rfl ?_
        refine aL rfl rfl rfl rfl rfl ?_
        refine fM rfl ?_
        exact rWeak 2 rfl (ih (B ++ N ++ [⟨10, at_⟩]) (by rw [← hB]; simp)) rfl rfl rfl
      · have hy' : ¬ isInF ds x.ty.name = false := by simpa using hy
        rw [if_neg hy'] at hB hlen
        refine fR rfl ?_
        refine aL rfl rfl rfl rfl rfl ?_
        refine fM rfl ?_
        exact rWeak 2 rfl (ih (B ++ N) (by rw [← hB]; simp)) rfl rfl rfl

def fldB (ds : List Def) (n : Str) : Bool := !scalF n && (findDef n ds).isSome && ((findDef n ds).getD Def.zero).kind == 5
def fldOne (ds : List Def) (p : List Field) (x : Field) (at_ : Str) : List Fault :=
  namesF x.name false (findField x.name p).isSome at_ ++ (if knownF ds x.ty.name = false then [⟨8, at_⟩] else if fldB ds x.ty.name = true then [⟨10, at_⟩] else []) ++ inF ds (at_ ++ [40]) [41] [] x.args
def fldL (ds : List Def) (n : Str) : List Field → List Field → List Fault
  | _, [] => []
  | p, x :: r => fldOne ds p x (n ++ [46] ++ x.name) ++ fldL ds n (p ++ [x]) r
theorem fields_ok (H : Pr P) (ds : List Def) (hD : DocOk ds) (d : Def) (hd : d.Ok) (ht : (fldL ds d.name [] d.fields).length ≤ 4398046511104) : FnOk P 103 [docV ds, d.v] ⟨[], 0⟩ { v := .t (.lst ((fldL ds d.name [] d.fields).map Fault.enc)) } := by
  have hfl := hd.fl
  have hnm := hd.nm
  generalize hT : fldL ds d.name [] d.fields = tot at ht
  refine FnOk.run H.i103 H.mixed rfl rfl ?_
  refine fR rfl ?_
  refine rList d.fields (fun i (B : List Fault) => { env := [(2, .ptr 0 0), (3, .ptr 1 0), (5, .own 2 2 (B.map Fault.enc)), (6, .t (.int .i64 i))], s := ⟨[(0, .cells [.t (.lst (ds.map Def.enc))]), (1, .cells [.t (.int .i64 d.kind), .t (.str d.name), .t (.lst (d.implements.map sE)), .t (.lst (d.dirs.map Dir.enc)), .t (.lst (d.fields.map Field.enc)), .t (.lst (d.members.map Member.enc)), .t (.lst (d.inputs.map Input.enc))]), (2, .arr B.length)], 3⟩ }) (fun r i B => B ++ fldL ds d.name (d.fields.take i) r = tot) 2 [] rfl (by simpa using hT) rfl rfl rfl ?_ ?_
  · rintro B hB
    obtain rfl : B = tot := by rw [← hB]; simp [fldL]
    refine fR rfl ?_
    refine lM rfl rfl rfl ?_
    refine fM rfl ?_
    refine Run.condF rfl rfl (by simp) ?_
    refine fR rfl ?_
    refine Run.fin rfl (EndOk.go ?_); exact .own rfl
  · rintro i x r B h1 hi hdr hB ih
    have hx := hd.f x (List.mem_of_getElem? h1)
    have hxn := hx.nm
    have hxl := hx.al
    have htk : d.fields.take i ++ [x] = d.fields.take (i + 1) := by rw [List.take_add_one, h1]; rfl
    have htkl : (d.fields.take i).length ≤ 140737488355328 := by simp; omega
    simp only [fldL, fldOne, htk] at hB
    generalize hAt : d.name ++ [46] ++ x.name = at_ at hB
    have hatl : at_.length ≤ 1125899906842000 := by rw [← hAt]; simp; omega
    have hlen := congrArg List.length hB
    simp only [List.length_append] at hlen
    refine fR rfl ?_
    refine lM rfl rfl rfl ?_
    refine fM rfl ?_
    refine Run.condT rfl rfl (by simp; omega) ?_
    refine fR rfl ?_
    refine Mid.elemMap rfl rfl rfl h1 rfl rfl ?_
    refine fM rfl ?_
    refine pu rfl ?_
    refine fM rfl ?_
    refine pu rfl ?_
    refine fM rfl ?_
    refine lTo rfl rfl rfl rfl ?_
    refine fM rfl ?_
    rw [hAt]
    refine Mid.call (rFieldOf_ok H ⟨0, [], [], [], d.fields.take i, [], []⟩ htkl x.name) rfl rfl rfl rfl ?_
    refine fM rfl ?_
    refine Mid.call (names_ok H x.name hxn false (findField x.name (d.fields.take i)).isSome at_) rfl rfl rfl rfl ?_
    skip
    generalize namesF x.name false (findField x.name (d.fields.take i)).isSome at_ = N at hB hlen
    refine apM Fault.enc B N rfl rfl rfl rfl rfl ?_ (h1 := by first | omega | (simp; omega) | (simp; done)) (h2 := by first | omega | (simp; omega) | (simp; done))
    refine fM rfl ?_
    refine Mid.call (rFind_ok H ds hD.l x.ty.name) rfl rfl rfl rfl ?_
    refine fM rfl ?_
    refine Mid.call (known_ok H ds hD x.ty.name) rfl rfl rfl rfl ?_
    refine fM rfl ?_
    refine Run.cond rfl rfl (fun hk => ?_) (fun hk => ?_)
    · have hk' : knownF ds x.ty.name = false := by simpa using hk
      rw [if_pos hk'] at hB hlen
      simp only [List.length_cons, List.length_nil] at hlen
      refine fR rfl ?_
      refine apM Fault.enc (B ++ N) [(⟨8, at_⟩ : Fault)] rfl rfl rfl rfl rfl ?_ (h1 := by first | omega | (simp; omega) | (simp; done)) (h2 := by first | omega | (simp; omega) | (simp; done))
      refine fM rfl ?_
      refine pu rfl ?_
      refine Mid.call (inputs_ok H ds hD x.args hxl hx.a (at_ ++ [40]) [41] (by simp; omega) (by decide) (by omega)) rfl rfl rfl rfl ?_
      skip
      generalize inF ds (at_ ++ [40]) [41] [] x.args = M at hB hlen
      refine apM Fault.enc (B ++ N ++ [⟨8, at_⟩]) M rfl rfl rfl rfl rfl ?_ (h1 := by first | omega | (simp; omega) | (simp; done)) (h2 := by first | omega | (simp; omega) | (simp; done))
      refine fM rfl ?_
      refine aL rfl rfl rfl rfl rfl ?_
      refine fM rfl ?_
      exact rWeak 3 rfl (ih (B ++ N ++ [⟨8, at_⟩] ++ M) (by rw [← hB]; simp)) rfl rfl rfl
    · have hk' : ¬ knownF ds x.ty.name = false := by simpa using hk
      rw [if_neg hk'] at hB hlen
      refine fR rfl ?_
      refine Mid.call (rScalar_ok H x.ty.name) rfl rfl rfl rfl ?_
      refine fM rfl ?_
      refine Run.cond rfl rfl (fun hy => ?_) (fun hy => ?_)
      · have hy' : fldB ds x.ty.name = true := hy
        rw [if_pos hy'] at hB hlen
        simp only [List.length_cons, List.length_nil] at hlen
        refine fR rfl ?_
        refine apM Fault.enc (B ++ N) [(⟨10, at_⟩ : Fault)] rfl rfl rfl rfl rfl ?_ (h1 := by first | omega | (simp; omega) | (simp; done)) (h2 := by first | omega | (simp; omega) | (simp; done))
        refine fM rfl ?_
        refine pu rfl ?_
        refine Mid.call (inputs_ok H ds hD x.args hxl hx.a (at_ ++ [40]) [41] (by simp; omega) (by decide) (by omega)) rfl rfl rfl rfl ?_
        skip
        generalize inF ds (at_ ++ [40]) [41] [] x.args = M at hB hlen
        refine apM Fault.enc (B ++ N ++ [⟨10, at_⟩]) M rfl rfl rfl rfl rfl ?_ (h1 := by first | omega | (simp; omega) | (simp; done)) (h2 := by first | omega | (simp; omega) | (simp; done))
        refine fM rfl ?_
        refine aL rfl rfl rfl rfl rfl ?_
        refine fM rfl ?_
        exact rWeak 3 rfl (ih (B ++ N ++ [⟨10, at_⟩] ++ M) (by rw [← hB]; simp)) rfl rfl rfl
      · have hy' : ¬ fldB ds x.ty.name = true := by rw [show fldB ds x.ty.name = false from hy]; simp
        rw [if_neg hy'] at hB hlen
        simp only [List.length_nil] at hlen
        refine fR rfl ?_
        refine pu rfl ?_
        refine Mid.call (inputs_ok H ds hD x.args hxl hx.a (at_ ++ [40]) [41] (by simp; omega) (by decide) (by omega)) rfl rfl rfl rfl ?_
        skip
        generalize inF ds (at_ ++ [40]) [41] [] x.args = M at hB hlen
        refine apM Fault.enc (B ++ N) M rfl rfl rfl rfl rfl ?_ (h1 := by first | omega | (simp; omega) | (simp; done)) (h2 := by first | omega | (simp; omega) | (simp; done))
        refine fM rfl ?_
        refine aL rfl rfl rfl rfl rfl ?_
        refine fM rfl ?_
        exact rWeak 3 rfl (ih (B ++ N ++ M) (by rw [← hB]; simp)) rfl rfl rfl

def memBad (n : Str) : Bool := n == [116, 114, 117, 101] || n == [102, 97, 108, 115, 101] || n == [110, 117, 108, 108]
def memL (t : Str) : List Member → List Member → List Fault
  | _, [] => []
  | p, x :: r => namesF x.name (memBad x.name) (memF p x.name) (t ++ [46] ++ x.name) ++ memL t (p ++ [x]) r
theorem members_ok (H : Pr P) (d : Def) (hd : d.Ok) (ht : (memL d.name [] d.members).length ≤ 4398046511104) : FnOk P 104 [d.v] ⟨[], 0⟩ { v := .t (.lst ((memL d.name [] d.members).map Fault.enc)) } := by
  have hfl := hd.ml
  have hnm := hd.nm
  generalize hT : memL d.name [] d.members = tot at ht
  refine FnOk.run H.i104 H.mixed rfl rfl ?_
  refine fR rfl ?_
  refine rList d.members (fun i (B : List Fault) => { env := [(1, .ptr 0 0), (3, .own 1 2 (B.map Fault.enc)), (4, .t (.int .i64 i))], s := ⟨[(0, .cells [.t (.int .i64 d.kind), .t (.str d.name), .t (.lst (d.implements.map sE)), .t (.lst (d.dirs.map Dir.enc)), .t (.lst (d.fields.map Field.enc)), .t (.lst (d.members.map Member.enc)), .t (.lst (d.inputs.map Input.enc))]), (1, .arr B.length)], 2⟩ }) (fun r i B => B ++ memL d.name (d.members.take i) r = tot) 1 [] rfl (by simpa using hT) rfl rfl rfl ?_ ?_
  · rintro B hB
    obtain rfl : B = tot := by rw [← hB]; simp [memL]
    refine fR rfl ?_
    refine lM rfl rfl rfl ?_
    refine fM rfl ?_
    refine Run.condF rfl rfl (by simp) ?_
    refine fR rfl ?_
    refine Run.fin rfl (EndOk.go ?_); exact .own rfl
  · rintro i x r B h1 hi hdr hB ih
    have hx := hd.m x (List.mem_of_getElem? h1)
    have hxn := hx.nm
    have htk : d.members.take i ++ [x] = d.members.take (i + 1) := by rw [List.take_add_one, h1]; rfl
    have htkl : (d.members.take i).length ≤ 140737488355328 := by simp; omega
    simp only [memL, htk] at hB
    generalize hAt : d.name ++ [46] ++ x.name = at_ at hB
    have hatl : at_.length ≤ 1125899906842000 := by rw [← hAt]; simp; omega
    have hlen := congrArg List.length hB
    simp only [List.length_append] at hlen
    refine fR rfl ?_
    refine lM rfl rfl rfl ?_
    refine fM rfl ?_
    refine Run.condT rfl rfl (by simp; omega) ?_
    refine fR rfl ?_
    refine Mid.elemMap rfl rfl rfl h1 rfl rfl ?_
    refine fM rfl ?_
    refine rList (d.members.take i) (fun j (C : Bool) => { env := [(1, .ptr 0 0), (3, .own 1 2 (B.map Fault.enc)), (4, .t (.int .i64 i)), (5, .t (.str x.name)), (6, .t (.bool C)), (7, .t (.int .i64 j))], s := ⟨[(0, .cells [.t (.int .i64 d.kind), .t (.str d.name), .t (.lst (d.implements.map sE)), .t (.lst (d.dirs.map Dir.enc)), .t (.lst (d.fields.map Field.enc)), .t (.lst (d.members.map Member.enc)), .t (.lst (d.inputs.map Input.enc))]), (1, .arr B.length)], 2⟩ }) (fun r j C => memF (d.members.take i) x.name = (C || memF r x.name)) 2 false rfl (by simp) rfl rfl rfl ?_ ?_
    · intro C hC
      have hl : (d.members.take i).length = i := by simp; omega
      have hC' : memF (d.members.take i) x.name = C := by rw [hC]; simp [memF]
      rw [hl]
      rw [hC'] at hB hlen
      refine fR rfl ?_
      refine Run.condF rfl rfl (by simp) ?_
      refine fR rfl ?_
      refine pu rfl ?_
      refine fM rfl ?_
      refine pu rfl ?_
      rw [hAt]
      refine Mid.call (names_ok H x.name hxn (memBad x.name) C at_) rfl rfl rfl rfl ?_
      skip
      generalize namesF x.name (memBad x.name) C at_ = N at hB hlen
      refine apM Fault.enc B N rfl rfl rfl rfl rfl ?_ (h1 := by first | omega | (simp; omega) | (simp; done)) (h2 := by first | omega | (simp; omega) | (simp; done))
      refine fM rfl ?_
      refine aL rfl rfl rfl rfl rfl ?_
      refine fM rfl ?_
      exact rWeak 2 rfl (ih (B ++ N) (by rw [← hB]; simp)) rfl rfl rfl
    · intro j o r2 C h2 hj hjd hC ih2
      have hji : j < i := by simp at hj; omega
      have ho : d.members[j]? = some o := by rw [List.getElem?_take] at h2; rw [if_pos hji] at h2; exact h2
      have hjl : j < d.members.length := by omega
      refine fR rfl ?_
      refine Run.condT rfl rfl (by simp; omega) ?_
      refine fR rfl ?_
      refine elG rfl rfl rfl rfl ho rfl rfl ?_
      refine fM rfl ?_
      refine aL rfl rfl rfl rfl rfl ?_
      refine fM rfl ?_
      exact rWeak 2 rfl (ih2 (C || o.name == x.name) (by rw [hC]; simp only [memF, List.any_cons]; cases C <;> simp)) rfl rfl rfl
end Go.GB.C11


/-
  D11W: contracts of chapter 11's functions: the schema's check.
-/
namespace Go.GB.C11
open Go.GB
set_option linter.unusedSimpArgs false
set_option linter.unusedVariables false
set_option maxRecDepth 100000
set_option maxHeartbeats 2000000
variable {P : Program}

def tQuery : Str := [81, 117, 101, 114, 121]
def chkK (ds : List Def) (d : Def) : List Fault :=
  if d.kind = 1 then fldL ds d.name [] d.fields else if d.kind = 2 then fldL ds d.name [] d.fields
  else if d.kind = 4 then memL d.name [] d.members else if d.kind = 5 then inF ds (d.name ++ [46]) [] [] d.inputs else []
def chkL (ds : List Def) : Nat → List Def → List Fault
  | _, [] => []
  | i, d :: r => wholeF ds i d ++ chkK ds d ++ chkL ds (i + 1) r
def chkQ (ds : List Def) (q : Bool) : List Fault := if (q && !(findDef tQuery ds).isSome) = true then [⟨30, tQuery⟩] else []
def checkF (ds : List Def) (q : Bool) : List Fault := chkL ds 0 ds ++ chkQ ds q
theorem check_ok (H : Pr P) (ds : List Def) (hD : DocOk ds) (hil : ∀ o, o ∈ ds → o.inputs.length ≤ 2199023255552) (q : Bool) (ht : (checkF ds q).length ≤ 4398046511104) : FnOk P 55 [docV ds, .t (.bool q)] ⟨[], 0⟩ { v := .t (.lst ((checkF ds q).map Fault.enc)) } := by
  have hdl := hD.l
  have hT : chkL ds 0 ds ++ chkQ ds q = checkF ds q := rfl
  generalize checkF ds q = tot at ht hT
  refine FnOk.run H.i55 H.mixed rfl rfl ?_
  refine fR rfl ?_
  refine rList ds (fun i (B : List Fault) => { env := [(1, .t (.bool q)), (2, .ptr 0 0), (5, .own 1 2 (B.map Fault.enc)), (6, .t (.int .i64 i))], s := ⟨[(0, .cells [.t (.lst (ds.map Def.enc))]), (1, .arr B.length)], 2⟩ }) (fun r i B => B ++ chkL ds i r ++ chkQ ds q = tot) 1 [] rfl (by simpa using hT) rfl rfl rfl ?_ ?_
  · rintro B hB
    simp only [chkL, List.append_nil] at hB
    have hlen := congrArg List.length hB
    simp only [List.length_append] at hlen
    refine fR rfl ?_
    refine lM rfl rfl rfl ?_
    refine fM rfl ?_
    refine Run.condF rfl rfl (by simp) ?_
    refine fR rfl ?_
    refine Mid.call (rFind_ok H ds hD.l tQuery) rfl rfl rfl rfl ?_
    refine fM rfl ?_
    refine Run.cond rfl rfl (fun hc => ?_) (fun hc => ?_)
    · have hc' : chkQ ds q = [⟨30, tQuery⟩] := by unfold chkQ; rw [if_pos (show (q && !(findDef tQuery ds).isSome) = true from hc)]
      rw [hc'] at hB hlen
      simp only [List.length_cons, List.length_nil] at hlen
      refine fR rfl ?_
      refine apM Fault.enc B [(⟨30, tQuery⟩ : Fault)] rfl rfl rfl rfl rfl ?_ (h1 := by first | omega | (simp; omega) | (simp; done)) (h2 := by first | omega | (simp; omega) | (simp; done))
      refine fM rfl ?_
      refine Run.fin rfl (EndOk.go ?_); exact .own (by rw [hB])
    · have hc' : chkQ ds q = [] := by unfold chkQ; rw [if_neg (by rw [show (q && !(findDef tQuery ds).isSome) = false from hc]; simp)]
      rw [hc'] at hB
      refine fR rfl ?_
      refine Run.fin rfl (EndOk.go ?_); exact .own (by rw [← hB]; simp)
  · rintro i d r B h1 hi hdr hB ih
    have hd := hD.d d (List.mem_of_getElem? h1)
    have hnm := hd.nm
    have hnl := hd.nl
    simp only [chkL] at hB
    have hlen := congrArg List.length hB
    simp only [List.length_append] at hlen
    refine fR rfl ?_
    refine lM rfl rfl rfl ?_
    refine fM rfl ?_
    refine Run.condT rfl rfl (by simp; omega) ?_
    refine fR rfl ?_
    refine Mid.elemMap rfl rfl rfl h1 rfl rfl ?_
    refine fM rfl ?_
    refine Mid.call (whole_ok H ds hD hil i d h1) rfl rfl rfl rfl ?_
    skip
    generalize wholeF ds i d = W at hB hlen
    refine apM Fault.enc B W rfl rfl rfl rfl rfl ?_ (h1 := by first | omega | (simp; omega) | (simp; done)) (h2 := by first | omega | (simp; omega) | (simp; done))
    refine fM rfl ?_
    unfold chkK at hB hlen
    refine Run.cond rfl rfl (fun k1 => ?_) (fun k1 => ?_)
    · have k1' : d.kind = 1 := by simpa using k1
      rw [if_pos k1'] at hB hlen
      skip
      refine Run.condT rfl rfl k1 ?_
      refine fR rfl ?_
      refine Mid.call (fields_ok H ds hD d hd (by omega)) rfl rfl rfl rfl ?_
      skip
      generalize fldL ds d.name [] d.fields = M at hB hlen
      refine apM Fault.enc (B ++ W) M rfl rfl rfl rfl rfl ?_ (h1 := by first | omega | (simp; omega) | (simp; done)) (h2 := by first | omega | (simp; omega) | (simp; done))
      refine fM rfl ?_
      refine aL rfl rfl rfl rfl rfl ?_
      refine fM rfl ?_
      exact rWeak 2 rfl (ih (B ++ W ++ M) (by rw [← hB]; simp)) rfl rfl rfl
    · have k1' : ¬ d.kind = 1 := by simpa using k1
      rw [if_neg k1'] at hB hlen
      refine fR rfl ?_
      refine Run.cond rfl rfl (fun k2 => ?_) (fun k2 => ?_)
      · have k2' : d.kind = 2 := by simpa using k2
        rw [if_pos k2'] at hB hlen
        refine fR rfl ?_
        refine Mid.call (fields_ok H ds hD d hd (by omega)) rfl rfl rfl rfl ?_
        skip
        generalize fldL ds d.name [] d.fields = M at hB hlen
        refine apM Fault.enc (B ++ W) M rfl rfl rfl rfl rfl ?_ (h1 := by first | omega | (simp; omega) | (simp; done)) (h2 := by first | omega | (simp; omega) | (simp; done))
        refine fM rfl ?_
        refine aL rfl rfl rfl rfl rfl ?_
        refine fM rfl ?_
        exact rWeak 2 rfl (ih (B ++ W ++ M) (by rw [← hB]; simp)) rfl rfl rfl
      · have k2' : ¬ d.kind = 2 := by simpa using k2
        rw [if_neg k2'] at hB hlen
        refine fR rfl ?_
        refine Run.cond rfl rfl (fun k4 => ?_) (fun k4 => ?_)
        · have k4' : d.kind = 4 := by simpa using k4
          rw [if_pos k4'] at hB hlen
          refine fR rfl ?_
          refine Mid.call (members_ok H d hd (by omega)) rfl rfl rfl rfl ?_
          skip
          generalize memL d.name [] d.members = M at hB hlen
          refine apM Fault.enc (B ++ W) M rfl rfl rfl rfl rfl ?_ (h1 := by first | omega | (simp; omega) | (simp; done)) (h2 := by first | omega | (simp; omega) | (simp; done))
          refine fM rfl ?_
          refine aL rfl rfl rfl rfl rfl ?_
          refine fM rfl ?_
          exact rWeak 2 rfl (ih (B ++ W ++ M) (by rw [← hB]; simp)) rfl rfl rfl
        · have k4' : ¬ d.kind = 4 := by simpa using k4
          rw [if_neg k4'] at hB hlen
          refine fR rfl ?_
          refine Run.cond rfl rfl (fun k5 => ?_) (fun k5 => ?_)
          · have k5' : d.kind = 5 := by simpa using k5
            rw [if_pos k5'] at hB hlen
            refine fR rfl ?_
            refine pu rfl ?_
            refine Mid.call (inputs_ok H ds hD d.inputs hnl hd.n (d.name ++ [46]) [] (by simp; omega) (by decide) (by omega)) rfl rfl rfl rfl ?_
            skip
            generalize inF ds (d.name ++ [46]) [] [] d.inputs = M at hB hlen
            refine apM Fault.enc (B ++ W) M rfl rfl rfl rfl rfl ?_ (h1 := by first | omega | (simp; omega) | (simp; done)) (h2 := by first | omega | (simp; omega) | (simp; done))
            refine fM rfl ?_
            refine aL rfl rfl rfl rfl rfl ?_
            refine fM rfl ?_
            exact rWeak 2 rfl (ih (B ++ W ++ M) (by rw [← hB]; simp)) rfl rfl rfl
          · have k5' : ¬ d.kind = 5 := by simpa using k5
            rw [if_neg k5'] at hB hlen
            refine fR rfl ?_
            refine aL rfl rfl rfl rfl rfl ?_
            refine fM rfl ?_
            exact rWeak 2 rfl (ih (B ++ W) (by rw [← hB]; simp)) rfl rfl rfl
end Go.GB.C11


/-
  GbX: what a law is handed, as trees; a law's row from its contract.
-/
namespace Go.GB
open Go.RowKit Go.WideShapes Go.ChangeShapes

abbrev allFix : Nat → Lab := fun _ => .fix none

/-- trees of a type -/
def WT (P : Program) : Nat → TypeId → List T → Prop
  | 0, _, _ => False
  | n + 1, t, ts =>
    match P.underlying t with
    | some .bool => ∃ b, ts = [.bool b]
    | some (.int k) => ∃ x, ts = [.int k x] ∧ (Lit.int k x).wf = true
    | some .string => ∃ s, ts = [.str s] ∧ s.length ≤ reachBytes
    | some (.slice e) => ∃ xs, ts = [.lst xs] ∧ xs.length * P.bytesOf e ≤ reachBytes ∧ xs.length ≤ maxLen ∧ ∀ c ∈ xs, WT P n e c
    | some (.struct fs) => ts.length = P.cellsOf t ∧ ∀ f ∈ fs.toList, WT P n f.type ((ts.drop f.offset).take (P.cellsOf f.type))
    | some (.array m e) => ts.length = P.cellsOf t ∧ ∀ i, i < m → WT P n e ((ts.drop (i * P.cellsOf e)).take (P.cellsOf e))
    | _ => False

/-- places that follow each other: where they end -/
def consec (P : Program) : Nat → List (Nat × TypeId) → Option Nat
  | off, [] => some off
  | off, (o, t) :: r => if o = off then consec P (off + P.cellsOf t) r else none

/-- types of plain data: closed under their parts -/
def plainT (P : Program) (S : List TypeId) : Bool :=
  S.all fun t =>
    match P.underlying t with
    | some .bool => true
    | some (.int _) => true
    | some .string => true
    | some (.slice e) => S.contains e && decide (0 < P.cellsOf e)
    | some (.struct fs) => (fs.toList.all fun f => S.contains f.type) && (consec P 0 (fs.toList.map fun f => (f.offset, f.type)) == some (P.cellsOf t))
    | some (.array m e) => S.contains e && (consec P 0 ((List.range m).map fun i => (i * P.cellsOf e, e)) == some (P.cellsOf t))
    | _ => false

def RepL (w : World) (cs : List Value) (ts : List T) : Prop := cs.length = ts.length ∧ ∀ (j : Nat) (v : Value) (x : T), cs[j]? = some v → ts[j]? = some x → RepT allFix w v x

theorem RepL.one {w : World} {v : Value} {x : T} (h : RepT allFix w v x) : RepL w [v] [x] := by
  refine ⟨rfl, fun j u y h1 h2 => ?_⟩
  cases j with
  | zero => simp at h1 h2; subst h1; subst h2; exact h
  | succ j => simp at h1

theorem mapM_at {α β : Type} {g : α → Option β} : ∀ {l : List α} {r : List β}, l.mapM g = some r → l.length = r.length ∧ ∀ (j : Nat) (x : α), l[j]? = some x → ∃ y, r[j]? = some y ∧ g x = some y
  | [], r, h => by simp at h; subst h; simp
  | a :: l, r, h => by
    simp only [List.mapM_cons, Option.bind_eq_bind, Option.pure_def, Option.bind_eq_some_iff] at h
    obtain ⟨y, hy, r', hr, h⟩ := h
    simp at h; subst h
    obtain ⟨i1, i2⟩ := mapM_at hr
    refine ⟨by simp [i1], fun j x hx => ?_⟩
    cases j with
    | zero => simp at hx; subst hx; exact ⟨y, rfl, hy⟩
    | succ j => simpa using i2 j x (by simpa using hx)

theorem spot_none {w : World} {a : Addr} {v : Value} (h : w.cell? a = some v) : a.spot = none := by
  unfold World.cell? at h
  cases hs : a.spot with
  | none => rfl
  | some s =>
    rw [hs] at h
    split at h <;> simp_all

theorem cells?_at {w : World} {base n : Nat} {a : Addr} {cs : List Value} (h : w.cells? base a n = some cs) : cs.length = n ∧ ∀ (j : Nat) (v : Value), cs[j]? = some v → w.cell? (a.add j) = some v := by
  unfold World.cells? at h
  split at h
  · obtain ⟨h1, h2⟩ := mapM_at h
    simp at h1
    refine ⟨h1.symm, fun j v hj => ?_⟩
    have hlt : j < n := by rw [h1]; exact (List.getElem?_eq_some_iff.1 hj).1
    obtain ⟨y, e1, e2⟩ := h2 j j (by simp [hlt])
    rw [hj] at e1; simp at e1; subst e1; exact e2
  · cases h

/-- a list chosen index by index -/
theorem choose_list {α : Type} {Q : Nat → α → Prop} : ∀ (n : Nat), (∀ j, j < n → ∃ v, Q j v) → ∃ vs : List α, vs.length = n ∧ ∀ (j : Nat) (v : α), vs[j]? = some v → Q j v
  | 0, _ => ⟨[], rfl, by simp⟩
  | n + 1, h => by
    obtain ⟨vs, hl, hv⟩ := choose_list n (fun j hj => h j (by omega))
    obtain ⟨v, hq⟩ := h n (by omega)
    refine ⟨vs ++ [v], by simp [hl], fun j u hu => ?_⟩
    by_cases hj : j < vs.length
    · rw [List.getElem?_append_left hj] at hu; exact hv j u hu
    · rw [List.getElem?_append_right (by omega)] at hu
      by_cases e : j = n
      · subst e; rw [hl] at hu; simp at hu; subst hu; exact hq
      · rw [List.getElem?_eq_none (by simp; omega)] at hu; cases hu

section
variable {H : Type} {enc : TypeId × Value → H} {P : Program} {w : World} {sp : Nat → Bool} {held : Bool} {S : List TypeId}

theorem weightsAll_of {e : TypeId} {r : Nat → Bool} : ∀ (l : List (DataW H)), (DataW.weightsAll P e l).all r = true → ∀ d ∈ l, (d.weights P e).all r = true
  | [], _, d, h => by cases h
  | x :: l, h, d, hd => by
    simp only [DataW.weightsAll, List.all_append, Bool.and_eq_true] at h
    cases hd with
    | head => exact h.1
    | tail _ hd => exact weightsAll_of l h.2 d hd
theorem weightsEach_of {r : Nat → Bool} : ∀ (ts : List TypeId) (l : List (DataW H)), (DataW.weightsEach P ts l).all r = true → ∀ (j : Nat) t d, ts[j]? = some t → l[j]? = some d → (d.weights P t).all r = true
  | [], l, _, j, t, d, h, _ => by simp at h
  | t :: ts, [], _, j, t', d, _, h => by simp at h
  | t :: ts, x :: l, h, j, t', d, h1, h2 => by
    simp only [DataW.weightsEach, List.all_append, Bool.and_eq_true] at h
    cases j with
    | zero => simp at h1 h2; subst h1; subst h2; exact h.1
    | succ j => exact weightsEach_of ts l h.2 j t' d (by simpa using h1) (by simpa using h2)
/-- an argument as an abstract value -/
def argV (P : Program) (t : TypeId) (ts : List T) : V := if isAggT P t then .agg (ts.map V.t) else .t (ts.headD .nilp)

/-- the world that a law is called in -/
def L.all (w : World) : L := { lab := allFix, fro := fun _ => 0, nxt := 0, w := w }

theorem RelS.all (w : World) : RelS (L.all w) ⟨[], 0⟩ := ⟨by simp [aget], fun b b' k h => by simp [L.all] at h, fun _ _ => rfl, fun b k h => by simp [L.all] at h, fun _ _ => rfl⟩

/-- arguments one by one -/
inductive WTs (P : Program) : List TypeId → List V → Prop
  | nil : WTs P [] []
  | cons {t : TypeId} {ts : List TypeId} {n : Nat} {xs : List T} {vs : List V} (h : WT P n t xs) (r : WTs P ts vs) : WTs P (t :: ts) (argV P t xs :: vs)

theorem trodAll_stays (hl : laidOutB P = true) {W W' : World} (hb : Below W.heap.size W W') {sp' : Nat → Bool} : ∀ (ts : List TypeId) (vs : List Value) (ds : List (DataW H)) (ps : List MemPlace), (∀ t ∈ ts, P.readableRec t = true ∧ t < P.types.size) → DataW.TrodAll enc P W 0 (fun _ => true) true ts vs ds ps →
    (∀ p ∈ ps, p.block < W.heap.size) → (∀ p ∈ ps, sp' p.block = true) → DataW.TrodAll enc P W' 0 sp' true ts vs ds ps
  | [], [], [], _, _, h, _, _ => h
  | t :: ts, v :: vs, d :: ds, _, hT, ⟨p, q, h1, h2, e⟩, hlt, hs => by
    subst e
    refine ⟨p, q, WideElems.Trod_stays hl (hT t (by simp)).1 (hT t (by simp)).2 h1 (fun x hx => hb.same (hlt x (List.mem_append_left _ hx))) (fun x hx => hs x (List.mem_append_left _ hx)), ?_, rfl⟩
    exact trodAll_stays hl hb ts vs ds q (fun t ht => hT t (List.mem_cons_of_mem _ ht)) h2 (fun x hx => hlt x (List.mem_append_right _ hx)) (fun x hx => hs x (List.mem_append_right _ hx))
  | [], _ :: _, _, _, _, h, _, _ => by simp [DataW.TrodAll] at h
  | [], [], _ :: _, _, _, h, _, _ => by simp [DataW.TrodAll] at h
  | _ :: _, [], _, _, _, h, _, _ => by simp [DataW.TrodAll] at h
  | _ :: _, _ :: _, [], _, _, h, _, _ => by simp [DataW.TrodAll] at h

end

section
variable {H : Type} {enc : TypeId × Value → H} {P : Program}
theorem post_of_below {f : Func} {s : ChangeSpec} {apart fresh handsOn again : Bool} {W W' : World} {args : Array Value} {v : Value} {ds gs : List (DataW H)} {before pa pv : List MemPlace}
    (hW : DataW.Whole enc P f.params.toList s.vars apart W args.toList ds gs before)
    (hres : ∀ (b : Nat) (sp : Nat → Bool) (hd : Bool), DataW.TrodAll enc P W' b sp hd f.resultTypes.toList (v.resultList f.resultTypes.size) (s.fn H (ds ++ gs)).results [])
    (hargs : ∀ sp : Nat → Bool, (∀ p ∈ before, sp p.block = true) → DataW.TrodAll enc P W' 0 sp true f.params.toList args.toList (s.fn H (ds ++ gs)).args pa)
    (hvars : ∀ sp : Nat → Bool, (∀ p ∈ before, sp p.block = true) → DataW.TrodVars enc P W' sp s.vars (s.fn H (ds ++ gs)).vars pv)
    (hps : before = pa ++ pv) (hb : Below W.heap.size W W')
    (hok : ∀ (j : Nat) (t : TypeId) (r : Value), f.resultTypes[j]? = some t → (v.resultList f.resultTypes.size)[j]? = some r → Value.okWide P W' .any 0 t r) :
    s.post enc P f apart fresh handsOn again W args v W' := by
  have hlt : ∀ p ∈ before, p.block < W.heap.size := fun p hp => hW.lt p hp
  have hold : ∀ p ∈ before, (fun b => decide (b < W.heap.size)) p.block = true := fun p hp => by simpa using hlt p hp
  refine ⟨ds, gs, before, [], pa, pv, hW, hres _ _ _, hargs _ hold, hvars _ hold, World.keptBut_mono (fun p hp => ⟨hp, ?_⟩) (hb.frame (· ∈ before)), fun _ => ?_⟩
  · rw [hps, List.mem_append] at hp
    exact Or.inr hp
  · obtain ⟨_, _, _, _, _, hz, hn⟩ := hW
    refine ⟨hok, _, _, ([] ++ pa) ++ pv, ⟨[] ++ pa, pv, trodAll_append (hargs _ (fun _ _ => rfl)) (hres _ _ _), hvars _ (fun _ _ => rfl), rfl, ?_, ?_⟩, ?_⟩
    · intro b off hp
      have hin : MemPlace.cell b off ∈ before := by rw [hps]; simpa using hp
      rw [hb.frozen (hlt _ hin)]
      exact hz b off hin
    · intro ha
      have := hn ha
      rw [hps] at this
      simpa using this
    · intro p hp _
      rw [hps]
      simpa using hp

end
end Go.GB


/-
  GbZA: shapes of plain types: what a law is handed, taken apart.
-/
namespace Go.GB
open Go.RowKit Go.WideShapes Go.ChangeShapes

inductive Sh where
  | bool
  | int (k : IntKind)
  | str
  | lst (b : Nat) (s : List Sh)
  | any
  | num (i : Nat)

/-- fields side by side -/
def joinSh (P : Program) (g : TypeId → Option (List Sh)) : Nat → List (Nat × TypeId) → Option (List Sh)
  | _, [] => some []
  | off, (o, t) :: r =>
    if o = off then
      match g t with
      | some a => if a.length = P.cellsOf t then (joinSh P g (off + P.cellsOf t) r).map fun b => a ++ b else none
      | none => none
    else none

def shOf (P : Program) (sp : TypeId → Option Nat) : Nat → TypeId → Option (List Sh)
  | 0, t =>
    match P.underlying t with
    | some .bool => some [.bool]
    | some (.int k) => some [.int k]
    | some .string => some [.str]
    | some (.slice e) => match sp e with | some i => some [.num i] | none => some [.any]
    | _ => none
  | n + 1, t =>
    match P.underlying t with
    | some .bool => some [.bool]
    | some (.int k) => some [.int k]
    | some .string => some [.str]
    | some (.slice e) => match sp e with | some i => some [.num i] | none => (shOf P sp n e).map fun s => [.lst (P.bytesOf e) s]
    | some (.struct fs) => (joinSh P (shOf P sp n) 0 (fs.toList.map fun f => (f.offset, f.type))).bind fun s => if s.length = P.cellsOf t then some s else none
    | some (.array m e) => (joinSh P (shOf P sp n) 0 ((List.range m).map fun i => (i * P.cellsOf e, e))).bind fun s => if s.length = P.cellsOf t then some s else none
    | _ => none

mutual
/-- a tree of that shape; numbers stand for lists of types that contain themselves -/
def Sh.ok (Y : Nat → T → Prop) : Sh → T → Prop
  | .bool, x => ∃ b, x = .bool b
  | .int k, x => ∃ n, x = .int k n ∧ (Lit.int k n).wf = true
  | .str, x => ∃ s, x = .str s ∧ s.length ≤ reachBytes
  | .lst b sh, x => ∃ xs : List (List T), x = .lst xs ∧ xs.length * b ≤ reachBytes ∧ xs.length ≤ maxLen ∧ ∀ c ∈ xs, Sh.oks Y sh c
  | .any, _ => True
  | .num i, x => Y i x
def Sh.oks (Y : Nat → T → Prop) : List Sh → List T → Prop
  | [], [] => True
  | s :: r, x :: ts => s.ok Y x ∧ Sh.oks Y r ts
  | _, _ => False
end

theorem Sh.oks_append {Y : Nat → T → Prop} : ∀ {a b : List Sh} {ts us : List T}, Sh.oks Y a ts → Sh.oks Y b us → Sh.oks Y (a ++ b) (ts ++ us)
  | [], b, [], us, _, h => h
  | [], b, x :: ts, us, h, _ => by simp [Sh.oks] at h
  | s :: r, b, [], us, h, _ => by simp [Sh.oks] at h
  | s :: r, b, x :: ts, us, h, k => by
    simp only [Sh.oks, List.cons_append] at h ⊢
    exact ⟨h.1, Sh.oks_append h.2 k⟩
theorem joinSh_ok {P : Program} {Y : Nat → T → Prop} {g : TypeId → Option (List Sh)} {n : Nat} (hg : ∀ t sh ts, g t = some sh → WT P n t ts → Sh.oks Y sh ts) : ∀ (l : List (Nat × TypeId)) (off : Nat) (sh : List Sh) (ts : List T), joinSh P g off l = some sh → (∀ p ∈ l, WT P n p.2 ((ts.drop p.1).take (P.cellsOf p.2))) →
    ∃ us, Sh.oks Y sh us ∧ us = (ts.drop off).take sh.length
  | [], off, sh, ts, h, _ => by simp [joinSh] at h; subst h; exact ⟨[], trivial, by simp⟩
  | (o, t) :: r, off, sh, ts, h, hp => by
    simp only [joinSh] at h
    split at h
    · rename_i e; subst e
      split at h
      · rename_i a ha
        split at h
        · rename_i hl
          simp only [Option.map_eq_some_iff] at h
          obtain ⟨b, hb, rfl⟩ := h
          have h1 := hg t a _ ha (hp (o, t) (by simp))
          obtain ⟨us, h2, h3⟩ := joinSh_ok hg r _ b ts hb fun p hpm => hp p (List.mem_cons_of_mem _ hpm)
          refine ⟨_, Sh.oks_append h1 h2, ?_⟩
          simp only at h1 ⊢
          rw [h3, List.length_append, hl, List.take_add, List.drop_drop]
        · cases h
      · cases h
    · cases h

theorem shOf_ok {P : Program} {sp : TypeId → Option Nat} {Y : Nat → T → Prop} : ∀ (n m : Nat) (t : TypeId) (sh : List Sh) (ts : List T), (∀ e i k xs, k < n → sp e = some i → xs.length * P.bytesOf e ≤ reachBytes → xs.length ≤ maxLen → (∀ c ∈ xs, WT P k e c) → Y i (.lst xs)) → shOf P sp m t = some sh → WT P n t ts → Sh.oks Y sh ts
  | 0, m, t, sh, ts, _, _, h => by simp [WT] at h
  | n + 1, 0, t, sh, ts, hsp, hs, h => by
    simp only [shOf] at hs
    simp only [WT] at h
    cases hu : P.underlying t with
    | none => rw [hu] at h; exact h.elim
    | some td =>
      rw [hu] at h hs
      cases td with
      | bool => simp only [Option.some.injEq] at hs h; subst hs; obtain ⟨b, rfl⟩ := h; exact ⟨⟨b, rfl⟩, trivial⟩
      | int k => simp at hs h; subst hs; obtain ⟨x, rfl, hw⟩ := h; exact ⟨⟨x, rfl, hw⟩, trivial⟩
      | string => simp at hs h; subst hs; obtain ⟨s, rfl, hw⟩ := h; exact ⟨⟨s, rfl, hw⟩, trivial⟩
      | slice e =>
        obtain ⟨xs, rfl, hr, hl, hc⟩ := h
        cases he : sp e with
        | none => simp only [he, Option.some.injEq] at hs; subst hs; exact ⟨trivial, trivial⟩
        | some i => simp only [he, Option.some.injEq] at hs; subst hs; exact ⟨hsp e i n xs (by omega) he hr hl hc, trivial⟩
      | _ => simp at hs
  | n + 1, m + 1, t, sh, ts, hsp, hs, h => by
    have hsp' : ∀ e i k xs, k < n → sp e = some i → xs.length * P.bytesOf e ≤ reachBytes → xs.length ≤ maxLen → (∀ c ∈ xs, WT P k e c) → Y i (.lst xs) := fun e i k xs hk => hsp e i k xs (by omega)
    simp only [shOf] at hs
    simp only [WT] at h
    cases hu : P.underlying t with
    | none => rw [hu] at h; exact h.elim
    | some td =>
      rw [hu] at h hs
      cases td with
      | bool => simp only [Option.some.injEq] at hs h; subst hs; obtain ⟨b, rfl⟩ := h; exact ⟨⟨b, rfl⟩, trivial⟩
      | int k => simp at hs h; subst hs; obtain ⟨x, rfl, hw⟩ := h; exact ⟨⟨x, rfl, hw⟩, trivial⟩
      | string => simp at hs h; subst hs; obtain ⟨s, rfl, hw⟩ := h; exact ⟨⟨s, rfl, hw⟩, trivial⟩
      | slice e =>
        obtain ⟨xs, rfl, hr, hl, hc⟩ := h
        cases hse : sp e with
        | none =>
          simp only [hse, Option.map_eq_some_iff] at hs
          obtain ⟨s, he, rfl⟩ := hs
          exact ⟨⟨xs, rfl, hr, hl, fun c hcm => shOf_ok n m e s c hsp' he (hc c hcm)⟩, trivial⟩
        | some i => simp only [hse, Option.some.injEq] at hs; subst hs; exact ⟨hsp e i n xs (by omega) hse hr hl hc, trivial⟩
      | struct fs =>
        simp only [Option.bind_eq_some_iff] at hs h
        obtain ⟨s, hs, hs2⟩ := hs
        split at hs2
        · rename_i hl
          simp at hs2; subst hs2
          obtain ⟨us, h1, h2⟩ := joinSh_ok (ts := ts) (Y := Y) (g := shOf P sp m) (n := n) (fun t sh ts a b => shOf_ok n m t sh ts hsp' a b) _ 0 s hs (fun p hp => by
            rw [List.mem_map] at hp
            obtain ⟨f, hf, rfl⟩ := hp
            exact h.2 f hf)
          rw [List.drop_zero, List.take_of_length_le (by omega)] at h2
          subst h2; exact h1
        · cases hs2
      | array k e =>
        simp only [Option.bind_eq_some_iff] at hs h
        obtain ⟨s, hs, hs2⟩ := hs
        split at hs2
        · rename_i hl
          simp at hs2; subst hs2
          obtain ⟨us, h1, h2⟩ := joinSh_ok (ts := ts) (Y := Y) (g := shOf P sp m) (n := n) (fun t sh ts a b => shOf_ok n m t sh ts hsp' a b) _ 0 s hs (fun p hp => by
            rw [List.mem_map] at hp
            obtain ⟨i, hi, rfl⟩ := hp
            exact h.2 i (List.mem_range.1 hi))
          rw [List.drop_zero, List.take_of_length_le (by omega)] at h2
          subst h2; exact h1
        · cases hs2
      | _ => simp at h

/-- trees one by one -/
theorem Sh.oks_cons {Y : Nat → T → Prop} {s : Sh} {r : List Sh} {ts : List T} (h : Sh.oks Y (s :: r) ts) : ∃ x ts', ts = x :: ts' ∧ s.ok Y x ∧ Sh.oks Y r ts' := by
  cases ts with
  | nil => simp [Sh.oks] at h
  | cons x ts => exact ⟨x, ts, rfl, h⟩
theorem Sh.oks_nil {Y : Nat → T → Prop} {ts : List T} (h : Sh.oks Y [] ts) : ts = [] := by
  cases ts with
  | nil => rfl
  | cons x ts => simp [Sh.oks] at h

/-- a list whose elements are encodings -/
theorem choose_map {α : Type} {f : α → List T} {Q : α → Prop} : ∀ (xs : List (List T)), (∀ c ∈ xs, ∃ a, c = f a ∧ Q a) → ∃ l : List α, xs = l.map f ∧ ∀ a ∈ l, Q a
  | [], _ => ⟨[], rfl, by simp⟩
  | c :: xs, h => by
    obtain ⟨l, h1, h2⟩ := choose_map xs (fun c hc => h c (List.mem_cons_of_mem _ hc))
    obtain ⟨a, rfl, ha⟩ := h c (by simp)
    exact ⟨a :: l, by simp [h1], fun b hb => by
      rcases List.mem_cons.1 hb with e | e
      · subst e; exact ha
      · exact h2 b e⟩

theorem WTs.cons_inv {P : Program} {t : TypeId} {ts : List TypeId} {vs : List V} (h : WTs P (t :: ts) vs) {m : Nat} {sh : List Sh} {sp : TypeId → Option Nat} {Y : Nat → T → Prop} (hsp : ∀ e i n xs, sp e = some i → xs.length * P.bytesOf e ≤ reachBytes → xs.length ≤ maxLen → (∀ c ∈ xs, WT P n e c) → Y i (.lst xs)) (hs : shOf P sp m t = some sh) : ∃ xs r, vs = argV P t xs :: r ∧ Sh.oks Y sh xs ∧ WTs P ts r := by
  cases h with
  | cons h r => exact ⟨_, _, rfl, shOf_ok _ _ _ _ _ (fun e i k xs _ => hsp e i k xs) hs h, r⟩
theorem WTs.nil_inv {P : Program} {vs : List V} (h : WTs P [] vs) : vs = [] := by
  cases h; rfl
theorem argV_agg {P : Program} {t : TypeId} (h : isAggT P t = true) (xs : List T) : argV P t xs = .agg (xs.map V.t) := by simp [argV, h]
theorem argV_one {P : Program} {t : TypeId} (h : isAggT P t = false) (x : T) : argV P t [x] = .t x := by simp [argV, h]

theorem len3 {α : Type} {l : List α} (h : l.length = 3) : ∃ a b c, l = [a, b, c] := by
  match l, h with
  | [a, b, c], _ => exact ⟨a, b, c, rfl⟩

end Go.GB


/-
  GbBk: what a law is handed, with its bulk: values and letters, each counted each time it is reached.
-/
namespace Go.GB
open Go.RowKit Go.WideShapes Go.ChangeShapes

mutual
def T.bulk : T → Nat
  | .str s => s.length + 1
  | .lst xs => bulkLL xs + 1
  | .bool _ => 1
  | .int _ _ => 1
  | .ptr _ => 1
  | .fn _ => 1
  | .nilp => 1
  | .nilm => 1
  | .nilf => 1
def bulkLL : List (List T) → Nat
  | [] => 0
  | c :: r => bulkL c + bulkLL r
def bulkL : List T → Nat
  | [] => 0
  | x :: r => x.bulk + bulkL r
end
theorem bulkL_append : ∀ (a b : List T), bulkL (a ++ b) = bulkL a + bulkL b
  | [], b => by simp [bulkL]
  | x :: r, b => by simp only [List.cons_append, bulkL, bulkL_append r b]; omega

/-- a measure of readings that counts values and letters -/
structure Bulk {H : Type} (B : DataW H → Nat) : Prop where
  lit : ∀ l, 1 ≤ B (.lit l)
  str : ∀ bs, bs.length + 1 ≤ B (.lit (.string bs))
  nil : 1 ≤ B .nil
  slice : ∀ e s, (e.map B).sum + 1 ≤ B (.slice e s)
  agg : ∀ ps, (ps.map B).sum ≤ B (.agg ps)

theorem bulkLL_le {H : Type} {B : DataW H → Nat} : ∀ (xs : List (List T)) (es : List (DataW H)), xs.length = es.length → (∀ (i : Nat) c e, xs[i]? = some c → es[i]? = some e → bulkL c ≤ B e) → bulkLL xs ≤ (es.map B).sum
  | [], [], _, _ => by simp [bulkLL]
  | [], _ :: _, h, _ => by simp at h
  | _ :: _, [], h, _ => by simp at h
  | c :: xs, e :: es, h, hb => by
    have h1 := hb 0 c e rfl rfl
    have h2 := bulkLL_le xs es (by simpa using h) (fun i c e a b => hb (i + 1) c e (by simpa using a) (by simpa using b))
    simp only [bulkLL, List.map_cons, List.sum_cons]; omega

theorem pieces2 {P : Program} {w : World} {n : Nat} {cs : List Value} : ∀ (l : List (Nat × TypeId)) (bs : List Nat) (off tot : Nat), consec P off l = some tot → tot ≤ cs.length → l.length = bs.length → (∀ (j : Nat) p nb, l[j]? = some p → bs[j]? = some nb → ∃ ts, RepL w ((cs.drop p.1).take (P.cellsOf p.2)) ts ∧ WT P n p.2 ts ∧ bulkL ts ≤ nb) →
    off ≤ tot ∧ ∃ ts : List T, ts.length = tot - off ∧ (∀ (j : Nat) (v : Value) (x : T), cs[off + j]? = some v → ts[j]? = some x → RepT allFix w v x) ∧ (∀ p ∈ l, off ≤ p.1 ∧ WT P n p.2 ((ts.drop (p.1 - off)).take (P.cellsOf p.2))) ∧ bulkL ts ≤ bs.sum
  | [], bs, off, tot, hc, _, _, _ => by simp [consec] at hc; subst hc; exact ⟨Nat.le_refl _, [], by simp, by simp, by simp, by simp [bulkL]⟩
  | _ :: _, [], _, _, _, _, h, _ => by simp at h
  | (o, t) :: r, nb :: bs, off, tot, hc, hl, hlen, hp => by
    simp only [consec] at hc
    split at hc
    · rename_i e; subst e
      obtain ⟨h1, ts, h2, h3, h4, h5⟩ := pieces2 r bs (o + P.cellsOf t) tot hc hl (by simpa using hlen) (fun j p nb a b => hp (j + 1) p nb (by simpa using a) (by simpa using b))
      obtain ⟨us, k1, k2, k3⟩ := hp 0 (o, t) nb rfl rfl
      have hul : us.length = P.cellsOf t := by rw [← k1.1]; simp; omega
      refine ⟨by omega, us ++ ts, by simp [hul, h2]; omega, fun j v x hv hx => ?_, fun p hpm => ?_, by rw [bulkL_append]; simp only [List.sum_cons]; omega⟩
      · by_cases hj : j < us.length
        · rw [List.getElem?_append_left hj] at hx
          refine k1.2 j v x ?_ hx
          simp only
          rw [List.getElem?_take, if_pos (by omega), List.getElem?_drop]; exact hv
        · rw [List.getElem?_append_right (by omega)] at hx
          refine h3 (j - us.length) v x ?_ hx
          have : o + P.cellsOf t + (j - us.length) = o + j := by omega
          rw [this]; exact hv
      · rcases List.mem_cons.1 hpm with e | e
        · subst e
          refine ⟨Nat.le_refl _, ?_⟩
          simp only [Nat.sub_self, List.drop_zero]
          rw [List.take_append_of_le_length (by omega), List.take_of_length_le (by omega)]
          exact k2
        · obtain ⟨g1, g2⟩ := h4 p e
          refine ⟨by omega, ?_⟩
          have : p.1 - o = us.length + (p.1 - (o + P.cellsOf t)) := by omega
          rw [this, List.drop_append, List.drop_eq_nil_of_le (by omega)]
          simpa using g2
    · cases hc

section
variable {H : Type} {enc : TypeId × Value → H} {P : Program} {w : World} {sp : Nat → Bool} {held : Bool} {S : List TypeId} {B : DataW H → Nat}

theorem trod_repB (hB : Bulk B) (hp : plainT P S = true) : ∀ (n : Nat) (t : TypeId) (cs : List Value) (d : DataW H) (ps : List MemPlace), t ∈ S → DataW.trod enc P w 0 sp held n t cs = some (d, ps) → (d.weights P t).all (· ≤ reachBytes) = true → ∃ ts, RepL w cs ts ∧ WT P n t ts ∧ bulkL ts ≤ B d
  | 0, t, cs, d, ps, _, h, _ => by simp [DataW.trod] at h
  | n + 1, t, cs, d, ps, ht, h, hwt => by
    have hpt := List.all_eq_true.1 hp t ht
    simp only [WT]
    cases hu : P.underlying t with
    | none => rw [hu] at hpt; simp at hpt
    | some td =>
      rw [hu] at hpt
      cases td with
      | bool =>
        rcases cs with _ | ⟨v, _ | ⟨v2, r⟩⟩ <;> try (simp [DataW.trod, hu] at h; done)
        cases v <;> simp [DataW.trod, hu] at h
        rename_i b
        refine ⟨[.bool b], RepL.one (.bool b), ⟨b, rfl⟩, ?_⟩
        rw [← h.1]; simpa [bulkL, T.bulk] using hB.lit _
      | int k =>
        rcases cs with _ | ⟨v, _ | ⟨v2, r⟩⟩ <;> try (simp [DataW.trod, hu] at h; done)
        cases v <;> simp [DataW.trod, hu] at h
        rename_i k' x
        obtain ⟨⟨rfl, h2⟩, hd, _⟩ := h
        refine ⟨[.int k' x], RepL.one (.int _ _), ⟨x, rfl, h2⟩, ?_⟩
        rw [← hd]; simpa [bulkL, T.bulk] using hB.lit _
      | string =>
        rcases cs with _ | ⟨v, _ | ⟨v2, r⟩⟩ <;> try (simp [DataW.trod, hu] at h; done)
        cases v <;> simp [DataW.trod, hu] at h
        rename_i s
        rw [← h.2.1] at hwt
        refine ⟨[.str s.data.toList], RepL.one (.str _), ⟨s.data.toList, rfl, by simpa [DataW.weights] using hwt⟩, ?_⟩
        have := hB.str s.data.toList
        rw [← h.2.1]
        simp only [bulkL, T.bulk]; omega
      | slice e =>
        simp only [Bool.and_eq_true, decide_eq_true_eq] at hpt
        have he : e ∈ S := by simpa using hpt.1
        rcases cs with _ | ⟨v, _ | ⟨v2, r⟩⟩ <;> try (simp [DataW.trod, hu] at h; done)
        cases v <;> try (simp [DataW.trod, hu] at h; done)
        rename_i a len cap
        cases a with
        | none =>
          have h0 : len = 0 ∧ cap = 0 := by
            cases len <;> cases cap <;> simp_all [DataW.trod]
          obtain ⟨rfl, rfl⟩ := h0
          have hd : DataW.nil = d := by
            simp only [DataW.trod, hu] at h
            simp at h; exact h.1
          refine ⟨[.lst []], RepL.one .nil, ⟨[], rfl, by simp, by simp, by simp⟩, ?_⟩
          rw [← hd]
          simpa [bulkL, bulkLL, T.bulk] using hB.nil
        | some a =>
          simp only [DataW.trod, hu] at h
          split at h
          · rename_i hcond
            simp only [Option.bind_eq_some_iff] at h
            obtain ⟨elems, hel, hrest⟩ := h
            obtain ⟨hl, hat⟩ := mapM_at hel
            simp at hl
            rw [Option.map_eq_some_iff] at hrest
            obtain ⟨rest, _, hde⟩ := hrest
            simp only [Prod.mk.injEq] at hde
            rw [← hde.1] at hwt
            simp only [DataW.weights, hu, List.all_cons, List.all_append, Bool.and_eq_true, decide_eq_true_eq, List.length_map] at hwt
            have hreach : len * P.bytesOf e ≤ reachBytes := by
              rw [hl]
              exact Nat.le_trans (Nat.mul_le_mul_right _ (Nat.le_add_right _ _)) hwt.1
            have hone : ∀ i, i < len → ∃ q : List Value × List T, w.cells? 0 (a.add (i * P.cellsOf e)) (P.cellsOf e) = some q.1 ∧ RepL w q.1 q.2 ∧ WT P n e q.2 ∧ ∀ y, elems[i]? = some y → bulkL q.2 ≤ B y.1 := by
              intro i hi
              obtain ⟨y, hye, hy⟩ := hat i i (by simp [hi])
              simp only [Option.bind_eq_some_iff] at hy
              obtain ⟨c, hc, hy⟩ := hy
              obtain ⟨d', ps'⟩ := y
              obtain ⟨ts, k1, k2, k3⟩ := trod_repB hB hp n e c d' ps' he hy (weightsAll_of _ hwt.2.1 _ (List.mem_map.2 ⟨(d', ps'), List.mem_of_getElem? hye, rfl⟩))
              exact ⟨(c, ts), hc, k1, k2, fun y h => by rw [hye] at h; simp at h; subst h; exact k3⟩
            obtain ⟨qs, hql, hq⟩ := choose_list len hone
            have hsz : ∀ (i : Nat) (q : List Value × List T), qs[i]? = some q → q.1.length = P.cellsOf e ∧ q.2.length = P.cellsOf e := by
              intro i q hi
              obtain ⟨h1, h2, _⟩ := hq i q hi
              have := (cells?_at h1).1
              exact ⟨this, by rw [← h2.1]; exact this⟩
            -- the address has no spot, where anything is read
            have hspot : 0 < len → a.spot = none := by
              intro h0
              have hq0 : qs[0]? = some (qs[0]'(by omega)) := by simp
              obtain ⟨h1, _, _⟩ := hq 0 _ hq0
              obtain ⟨e1, e2⟩ := cells?_at h1
              have hlt : 0 < (qs[0]'(by omega)).1.length := by rw [(hsz 0 _ hq0).1]; exact hpt.2
              have := spot_none (e2 0 _ (List.getElem?_eq_getElem hlt))
              simpa [Addr.add] using this
            have hadd : ∀ m, 0 < len → a.add m = ⟨a.block, a.off + m, none⟩ := by
              intro m h0
              have hs := hspot h0
              obtain ⟨b, o, s⟩ := a
              simp at hs; subst hs
              exact add_mk b o m
            refine ⟨[.lst (qs.map (·.2))], RepL.one ?_, ⟨qs.map (·.2), rfl, by simpa [hql] using hreach, by simp [hql]; omega, fun c hc => ?_⟩, ?_⟩
            · have hlen : len = (qs.map (·.2)).length := by simp [hql]
              rw [hlen]
              refine .lst (some a) cap (P.cellsOf e) (qs.map (·.2)) a.block a.off (fun i j => ((qs.map (·.1)).getD i []).getD j undef) (by rw [← hlen]; exact hcond.2.1) ?_ ?_ ?_ ?_ ?_
              · intro i c hc
                rw [List.getElem?_map, Option.map_eq_some_iff] at hc
                obtain ⟨q, h1, rfl⟩ := hc
                exact (hsz i q h1).2
              · intro i j c x hc hx
                have h0 : 0 < len := by have := (List.getElem?_eq_some_iff.1 hc).1; simp [hql] at this; omega
                have hs := hspot h0
                obtain ⟨b, o, s⟩ := a
                simp at hs; subst hs; rfl
              · intro i j c x hc hx; trivial
              · intro i j c x hc hx
                rw [List.getElem?_map, Option.map_eq_some_iff] at hc
                obtain ⟨q, h1, rfl⟩ := hc
                have h0 : 0 < len := by have := (List.getElem?_eq_some_iff.1 h1).1; omega
                obtain ⟨g1, g2, _⟩ := hq i q h1
                obtain ⟨e1, e2⟩ := cells?_at g1
                have hj : j < q.1.length := by rw [g2.1]; exact (List.getElem?_eq_some_iff.1 hx).1
                have := e2 j _ (List.getElem?_eq_getElem hj)
                rw [hadd _ h0] at this
                rw [add_mk] at this
                rw [this]
                simp [h1, hj]
              · intro i j c x hc hx
                rw [List.getElem?_map, Option.map_eq_some_iff] at hc
                obtain ⟨q, h1, rfl⟩ := hc
                obtain ⟨g1, g2, _⟩ := hq i q h1
                have hj : j < q.1.length := by rw [g2.1]; exact (List.getElem?_eq_some_iff.1 hx).1
                have := g2.2 j _ x (List.getElem?_eq_getElem hj) hx
                simpa [h1, hj] using this
            · rw [List.mem_map] at hc
              obtain ⟨q, h1, rfl⟩ := hc
              obtain ⟨i, hi⟩ := List.mem_iff_getElem?.1 h1
              exact (hq i q hi).2.2.1
            · rw [← hde.1]
              have h1 := hB.slice (elems.map (·.1)) (rest.map (·.1))
              have h2 := bulkLL_le (B := B) (qs.map (·.2)) (elems.map (·.1)) (by simp [hql, hl]) (fun i c e a b => by
                rw [List.getElem?_map, Option.map_eq_some_iff] at a b
                obtain ⟨q, a1, rfl⟩ := a
                obtain ⟨y, b1, rfl⟩ := b
                exact (hq i q a1).2.2.2 y b1)
              simp only [bulkL, T.bulk]; omega
          · cases h
      | struct fs =>
        simp only [Bool.and_eq_true, List.all_eq_true, beq_iff_eq] at hpt
        have hh : cs.length = P.cellsOf t ∧ ∃ xs, (fs.toList.mapM fun f => DataW.trod enc P w 0 sp held n f.type ((cs.drop f.offset).take (P.cellsOf f.type))) = some xs ∧ d = .agg (xs.map (·.1)) := by
          have h' := h
          simp only [DataW.trod, hu] at h'
          split at h'
          · rename_i hc
            simp only [Option.map_eq_some_iff] at h'
            obtain ⟨xs, hxs, hd⟩ := h'
            exact ⟨hc, xs, hxs, by simp only [Prod.mk.injEq] at hd; exact hd.1.symm⟩
          · cases h'
        obtain ⟨hlen, xs, hxs, rfl⟩ := hh
        obtain ⟨hl, hat⟩ := mapM_at hxs
        simp only [DataW.weights, hu] at hwt
        obtain ⟨_, ts, g1, g2, g3, g4⟩ := pieces2 (n := n) (w := w) (cs := cs) _ ((xs.map (·.1)).map B) 0 _ hpt.2 (by omega) (by simp [hl]) (fun j p nb hpm hnb => by
          rw [List.getElem?_map, Option.map_eq_some_iff] at hpm
          obtain ⟨f, hj, rfl⟩ := hpm
          have hf := List.mem_of_getElem? hj
          obtain ⟨y, hye, hy⟩ := hat j f hj
          obtain ⟨d', ps'⟩ := y
          rw [List.getElem?_map, List.getElem?_map, hye] at hnb
          simp at hnb; subst hnb
          exact trod_repB hB hp n f.type _ d' ps' (by simpa using hpt.1 f hf) hy (weightsEach_of _ _ hwt j f.type d' (by simp [hj]) (by simp [hye])))
        refine ⟨ts, ⟨by omega, fun j v x hv hx => g2 j v x (by simpa using hv) hx⟩, ⟨by omega, fun f hf => ?_⟩, Nat.le_trans g4 (hB.agg _)⟩
        have := (g3 (f.offset, f.type) (List.mem_map.2 ⟨f, hf, rfl⟩)).2
        simpa using this
      | array m e =>
        simp only [Bool.and_eq_true, beq_iff_eq] at hpt
        have hh : cs.length = P.cellsOf t ∧ ∃ xs, ((List.range m).mapM fun i => DataW.trod enc P w 0 sp held n e ((cs.drop (i * P.cellsOf e)).take (P.cellsOf e))) = some xs ∧ d = .agg (xs.map (·.1)) := by
          have h' := h
          simp only [DataW.trod, hu] at h'
          split at h'
          · rename_i hc
            simp only [Option.map_eq_some_iff] at h'
            obtain ⟨xs, hxs, hd⟩ := h'
            exact ⟨hc, xs, hxs, by simp only [Prod.mk.injEq] at hd; exact hd.1.symm⟩
          · cases h'
        obtain ⟨hlen, xs, hxs, rfl⟩ := hh
        obtain ⟨hl, hat⟩ := mapM_at hxs
        simp only [DataW.weights, hu] at hwt
        obtain ⟨_, ts, g1, g2, g3, g4⟩ := pieces2 (n := n) (w := w) (cs := cs) _ ((xs.map (·.1)).map B) 0 _ hpt.2 (by omega) (by simp [← hl]) (fun j p nb hpm hnb => by
          rw [List.getElem?_map, Option.map_eq_some_iff] at hpm
          obtain ⟨i, hj, rfl⟩ := hpm
          obtain ⟨y, hye, hy⟩ := hat j i hj
          obtain ⟨d', ps'⟩ := y
          rw [List.getElem?_map, List.getElem?_map, hye] at hnb
          simp at hnb; subst hnb
          exact trod_repB hB hp n e _ d' ps' (by simpa using hpt.1) hy (weightsAll_of _ hwt _ (List.mem_map.2 ⟨(d', ps'), List.mem_of_getElem? hye, rfl⟩)))
        refine ⟨ts, ⟨by omega, fun j v x hv hx => g2 j v x (by simpa using hv) hx⟩, ⟨by omega, fun i hi => ?_⟩, Nat.le_trans g4 (hB.agg _)⟩
        have := (g3 (i * P.cellsOf e, e) (List.mem_map.2 ⟨i, List.mem_range.2 hi, rfl⟩)).2
        simpa using this
      | _ => simp at hpt

def vbs : List V → Nat
  | [] => 0
  | .t x :: r => x.bulk + vbs r
  | _ :: r => vbs r
def vb : V → Nat
  | .t x => x.bulk
  | .agg cs => vbs cs
  | _ => 0
theorem vbs_map : ∀ (ts : List T), vbs (ts.map V.t) = bulkL ts
  | [] => rfl
  | x :: r => by simp only [List.map_cons, vbs, bulkL, vbs_map r]
theorem arg_relB (hB : Bulk B) (hp : plainT P S = true) {base : Nat} {t : TypeId} {v : Value} {d : DataW H} {ps : List MemPlace} (ht : t ∈ S) (hok : Value.okWide P w .any base t v) (h : DataW.Trod enc P w 0 sp held t v d ps) (hwt : (d.weights P t).all (· ≤ reachBytes) = true) :
    ∃ n ts, WT P n t ts ∧ RelV (L.all w) v (argV P t ts) ∧ vb (argV P t ts) ≤ B d := by
  obtain ⟨n, hn⟩ := h
  obtain ⟨ts, h1, h2, hbk⟩ := trod_repB hB hp n t _ d ps ht hn hwt
  refine ⟨n, ts, h2, ?_⟩
  have hpt := List.all_eq_true.1 hp t ht
  unfold argV
  by_cases hag : isAggT P t = true
  · simp only [hag, if_true]
    have : ∃ cs, v = .agg cs := by
      unfold isAggT at hag
      unfold Value.okWide at hok
      cases hu : P.underlying t with
      | none => rw [hu] at hag; simp at hag
      | some td => rw [hu] at hag hok; cases td <;> simp at hag <;> exact ⟨_, hok.choose_spec.1⟩
    obtain ⟨cs, rfl⟩ := this
    refine ⟨.agg (by simpa [Value.cells] using h1.1) fun j u c hj hc => ?_, by simpa [vb, vbs_map] using hbk⟩
    rw [List.getElem?_map, Option.map_eq_some_iff] at hc
    obtain ⟨x, hx, rfl⟩ := hc
    exact .t (h1.2 j u x (by simpa [Value.cells] using hj) hx)
  · simp only [hag, if_false, Bool.false_eq_true]
    have hcells : v.cells = #[v] := by
      unfold isAggT at hag
      unfold Value.okWide at hok
      cases hu : P.underlying t with
      | none => rw [hu] at hpt; simp at hpt
      | some td =>
        rw [hu] at hag hok hpt
        cases td <;> simp at hag hpt <;> simp only [Cell.okWide, Cell.ok, hu] at hok <;> cases v <;> first | rfl | (exact hok.elim)
    have hcl : ts.length = 1 := by rw [← h1.1, hcells]; rfl
    obtain ⟨x, rfl⟩ : ∃ x, ts = [x] := by
      match ts, hcl with
      | [x], _ => exact ⟨x, rfl⟩
    exact ⟨.t (h1.2 0 v x (by rw [hcells]; rfl) rfl), by simpa [vb, bulkL] using hbk⟩

theorem args_relB (hB : Bulk B) (hp : plainT P S = true) {base : Nat} : ∀ (ts : List TypeId) (args : List Value) (ds : List (DataW H)) (ps : List MemPlace), (∀ t ∈ ts, t ∈ S) → (∀ (j : Nat) t v, ts[j]? = some t → args[j]? = some v → Value.okWide P w .any base t v) →
    DataW.TrodAll enc P w 0 sp held ts args ds ps → (DataW.weightsEach P ts ds).all (· ≤ reachBytes) = true → ∃ vs, WTs P ts vs ∧ args.length = vs.length ∧ (vs.map vb).sum ≤ (ds.map B).sum ∧ ∀ (j : Nat) (v : Value) (x : V), args[j]? = some v → vs[j]? = some x → RelV (L.all w) v x
  | [], [], [], ps, _, _, _, _ => ⟨[], .nil, rfl, by simp, by simp⟩
  | t :: ts, v :: args, d :: ds, ps, hS, hok, ⟨p, q, h1, h2, _⟩, hwt => by
    simp only [DataW.weightsEach, List.all_append, Bool.and_eq_true] at hwt
    obtain ⟨vs, k1, k2, k4, k3⟩ := args_relB hB hp ts args ds q (fun t ht => hS t (List.mem_cons_of_mem _ ht)) (fun j t v a b => hok (j + 1) t v (by simpa using a) (by simpa using b)) h2 hwt.2
    obtain ⟨n, xs, g1, g2, g3⟩ := arg_relB hB hp (hS t (by simp)) (hok 0 t v rfl rfl) h1 hwt.1
    refine ⟨argV P t xs :: vs, .cons g1 k1, by simp [k2], by simp only [List.map_cons, List.sum_cons]; omega, fun j u x hu hx => ?_⟩
    cases j with
    | zero => simp at hu hx; subst hu; subst hx; exact g2
    | succ j => exact k3 j u x (by simpa using hu) (by simpa using hx)
  | [], _ :: _, _, _, _, _, h, _ => by simp [DataW.TrodAll] at h
  | [], [], _ :: _, _, _, _, h, _ => by simp [DataW.TrodAll] at h
  | _ :: _, [], _, _, _, _, h, _ => by simp [DataW.TrodAll] at h
  | _ :: _, _ :: _, [], _, _, _, h, _ => by simp [DataW.TrodAll] at h

end

section
variable {H : Type} {enc : TypeId × Value → H} {P : Program}
/-- A law's contract, as its row wants it. -/
theorem law_contractB {B : DataW H → Nat} {N : Nat} (hB : Bulk B) {S : List TypeId} {f : FuncId} {fn : Func} {s : ChangeSpec} {tb : TypeId} {apart fresh handsOn again : Bool} (hp : plainT P S = true) (hl : laidOutB P = true) (hT : ∀ t ∈ fn.params.toList, t ∈ S ∧ P.readableRec t = true ∧ t < P.types.size)
    (hrt : fn.resultTypes = #[tb]) (hb : P.underlying tb = some .bool) (hv : s.vars = []) (hs : ∀ ds : List (DataW H), ds.length = fn.params.size → s.fn H ds = { results := [.lit (.bool true)], args := ds })
    (W : World) (base : Nat) (args : Array Value) (ds gs : List (DataW H)) (before : List MemPlace)
    (hval : ∀ (j : Nat) t v, fn.params[j]? = some t → args[j]? = some v → Value.okWide P W .any base t v)
    (hW : DataW.Whole enc P fn.params.toList s.vars apart W args.toList ds gs before)
    (hwt : (DataW.weightsEach P (fn.params.toList ++ s.plain.varTypes P) (ds ++ gs)).all (· ≤ reachBytes) = true)
    (hbk : (ds.map B).sum ≤ N) (hok : ∀ vs, WTs P fn.params.toList vs → (vs.map vb).sum ≤ N → FnOk P f vs ⟨[], 0⟩ { v := .t (.bool true) }) :
    Calls P f args W fun e W' => ∃ v, e = .returned v ∧ s.post enc P fn apart fresh handsOn again W args v W' := by
  have hW' := hW
  obtain ⟨p, q, hA, hV, rfl, hfz, hnd⟩ := hW
  rw [hv] at hV
  obtain ⟨rfl, rfl⟩ := trodVars_none hV
  have hdl : ds.length = fn.params.size := by
    have : ∀ (ts : List TypeId) (vs : List Value) (ds : List (DataW H)) (ps : List MemPlace), DataW.TrodAll enc P W 0 (fun _ => true) true ts vs ds ps → ds.length = ts.length := by
      intro ts
      induction ts with
      | nil => intro vs ds ps h; cases vs <;> cases ds <;> simp_all [DataW.TrodAll]
      | cons t ts ih =>
        intro vs ds ps h
        cases vs with
        | nil => simp [DataW.TrodAll] at h
        | cons v vs =>
          cases ds with
          | nil => simp [DataW.TrodAll] at h
          | cons d ds => obtain ⟨p, q, _, h2, _⟩ := h; simp [ih vs ds q h2]
    simpa using this _ _ _ _ hA
  have hwt' : (DataW.weightsEach P fn.params.toList ds).all (· ≤ reachBytes) = true := by
    have happ : ∀ (ts us : List TypeId) (ds es : List (DataW H)), ts.length = ds.length → DataW.weightsEach P (ts ++ us) (ds ++ es) = DataW.weightsEach P ts ds ++ DataW.weightsEach P us es := by
      intro ts
      induction ts with
      | nil => intro us ds es h; cases ds with
        | nil => simp [DataW.weightsEach]
        | cons d ds => simp at h
      | cons t ts ih => intro us ds es h; cases ds with
        | nil => simp at h
        | cons d ds => simp only [List.cons_append, DataW.weightsEach, List.append_assoc]; rw [ih us ds es (by simpa using h)]
    rw [happ _ _ _ _ (by simpa using hdl.symm), List.all_append, Bool.and_eq_true] at hwt
    exact hwt.1
  obtain ⟨vs, k1, k2, k4, k3⟩ := args_relB hB hp _ _ _ _ (fun t ht => (hT t ht).1) (fun j t v a b => hval j t v (by simpa using a) (by simpa using b)) hA hwt'
  refine ((hok vs k1 (Nat.le_trans k4 hbk)).2 (L.all W) args (RelS.all W) rfl (by simpa using k2) (fun j v x a b => k3 j v x (by simpa using a) b)).mono fun e W' he => ?_
  obtain ⟨v, Λ', rfl, rfl, g1, g2, g3, g4⟩ := he
  have hvt := g4.repT.bool_inv
  subst hvt
  have hbel : Below W.heap.size W Λ'.w := ⟨g1.fr.os, g1.fr.tape, g1.fr.output, g1.fr.size, fun b hb => (g1.fr.fix b hb none rfl).2⟩
  have hsf := hs (ds ++ []) (by simpa using hdl)
  refine ⟨_, rfl, post_of_below (pa := p) (pv := []) (by simpa using hW') ?_ ?_ ?_ (by simp) hbel ?_⟩
  · intro b sp hd
    rw [hsf, hrt]
    exact ⟨[], [], ⟨1, by simp [DataW.trod, hb, Value.cells]⟩, rfl, rfl⟩
  · intro sp hsp
    rw [hsf]
    have hlt : ∀ x ∈ p, x.block < W.heap.size := fun x hx => hW'.lt x (by simpa using hx)
    simpa using trodAll_stays hl hbel _ _ _ _ (fun t ht => (hT t ht).2) hA hlt (fun x hx => hsp x (by simpa using hx))
  · intro sp hsp
    rw [hsf, hv]; rfl
  · intro j t r hj hr
    rw [hrt] at hj
    cases j with
    | zero =>
      simp at hj; subst hj
      simp [hrt, Value.resultList] at hr; subst hr
      simp [Value.okWide, Cell.okWide, Cell.ok, hb]
    | succ j => simp at hj
/-- 'law_contractB', its facts as Booleans -/
theorem law_okB {H : Type} {enc : TypeId × Value → H} {P : Program} {B : DataW H → Nat} {N : Nat} (hB : Bulk B) (S : List TypeId) {f : FuncId} {fn : Func} {s : ChangeSpec} {tb : TypeId} {apart fresh handsOn again : Bool} (hp : plainT P S = true) (hl : laidOutB P = true)
    (hT : (fn.params.toList.all fun t => S.contains t && P.readableRec t && decide (t < P.types.size)) = true)
    (hrt : fn.resultTypes = #[tb]) (hb : P.underlying tb = some .bool) (hv : s.vars = []) (hs : ∀ ds : List (DataW H), ds.length = fn.params.size → s.fn H ds = { results := [.lit (.bool true)], args := ds })
    (W : World) (base : Nat) (args : Array Value) (ds gs : List (DataW H)) (before : List MemPlace)
    (hval : ∀ (j : Nat) t v, fn.params[j]? = some t → args[j]? = some v → Value.okWide P W .any base t v)
    (hW : DataW.Whole enc P fn.params.toList s.vars apart W args.toList ds gs before)
    (hwt : (DataW.weightsEach P (fn.params.toList ++ s.plain.varTypes P) (ds ++ gs)).all (· ≤ reachBytes) = true)
    (hbk : (ds.map B).sum ≤ N) (hok : ∀ vs, WTs P fn.params.toList vs → (vs.map vb).sum ≤ N → FnOk P f vs ⟨[], 0⟩ { v := .t (.bool true) }) :
    Calls P f args W fun e W' => ∃ v, e = .returned v ∧ s.post enc P fn apart fresh handsOn again W args v W' := by
  refine law_contractB hB (S := S) hp hl (fun t ht => ?_) hrt hb hv hs W base args ds gs before hval hW hwt hbk hok
  rw [List.all_eq_true] at hT
  have := hT t ht
  simp only [Bool.and_eq_true, decide_eq_true_eq, List.contains_iff_mem] at this
  exact ⟨this.1.1, this.1.2, this.2⟩

end
end Go.GB

