/-
  YtpakhiccblfcmaaP7: lemmas of this proof (part 7). No conditions.
-/
import Derived.Test.YtpakhiccblfcmaaP6
import Derived.Test.YtpakhiccblfcmaaP4
import Derived.Test.YtpakhiccblfcmaaP5

/-
  D11C: contracts of chapter 11's functions: Possible of the program.
-/
namespace Go.GB.C11
open Go.GB
set_option linter.unusedSimpArgs false
set_option linter.unusedVariables false
set_option maxRecDepth 100000
set_option maxHeartbeats 2000000
variable {P : Program}

def bE (b : Bool) : T := .bool b
def hasK (M : List (Str × Bool)) (k : Str) : Bool := (kget k M).isSome
theorem hasK_kset (M : List (Str × Bool)) (x : Str) (k : Str) : hasK (kset x true M) k = (x == k || hasK M k) := by
  unfold hasK
  rw [kget_kset]
  by_cases h : k = x
  · subst h; simp
  · have h' : ¬ x = k := fun e => h e.symm
    simp [h, h']
/-- keys apart, all true -/
structure MOk (M : List (Str × Bool)) : Prop where
  nd : (M.map (·.1)).Nodup
  tr : ∀ e, e ∈ M → e.2 = true
theorem MOk.nil : MOk [] := ⟨by simp, by simp⟩
theorem kset_mem {M : List (Str × Bool)} {x : Str} {v : Bool} : ∀ {e : Str × Bool}, e ∈ kset x v M → e = (x, v) ∨ e ∈ M := by
  induction M with
  | nil => intro e h; simp [kset] at h; exact .inl h
  | cons a r ih =>
    intro e h
    simp only [kset] at h
    split at h
    · rcases List.mem_cons.1 h with h | h
      · exact .inl h
      · exact .inr (List.mem_cons_of_mem _ h)
    · rcases List.mem_cons.1 h with h | h
      · exact .inr (h ▸ List.mem_cons_self ..)
      · rcases ih h with h | h
        · exact .inl h
        · exact .inr (List.mem_cons_of_mem _ h)
theorem MOk.kset {M : List (Str × Bool)} (h : MOk M) (x : Str) : MOk (kset x true M) :=
  ⟨(kset_keys h.nd).1, fun e he => by rcases kset_mem he with rfl | he; rfl; exact h.tr e he⟩
theorem hasK_mem {M : List (Str × Bool)} {k : Str} (h : hasK M k = true) : ∃ e, e ∈ M ∧ e.1 = k := by
  unfold hasK at h
  induction M with
  | nil => simp [kget] at h
  | cons a r ih =>
    simp only [kget] at h
    split at h
    · rename_i e; exact ⟨a, List.mem_cons_self .., e.symm⟩
    · obtain ⟨e, h1, h2⟩ := ih h; exact ⟨e, List.mem_cons_of_mem _ h1, h2⟩
theorem MOk.get {M : List (Str × Bool)} (h : MOk M) (k : Str) : (kget k M).getD false = hasK M k := by
  have h2 := h.tr
  unfold hasK
  induction M with
  | nil => rfl
  | cons a r ih =>
    simp only [kget]
    split
    · simp [h2 a (List.mem_cons_self ..)]
    · exact ih ⟨(List.nodup_cons.1 (by simpa using h.nd)).2, fun e he => h2 e (List.mem_cons_of_mem _ he)⟩ fun e he => h2 e (List.mem_cons_of_mem _ he)

theorem kdrop_at {κ ν : Type} [DecidableEq κ] {e : κ × ν} : ∀ {l : List (κ × ν)} {i : Nat}, l[i]? = some e → (l.map (·.1)).Nodup → kdrop e.1 l = l.eraseIdx i
  | [], i, h, _ => by simp at h
  | w :: r, 0, h, hn => by simp at h; subst h; simp [kdrop]
  | w :: r, i + 1, h, hn => by
    simp only [List.map_cons, List.nodup_cons] at hn
    have h' : r[i]? = some e := by simpa using h
    have hne : ¬ e.1 = w.1 := fun heq => hn.1 (List.mem_map.2 ⟨e, List.mem_of_getElem? h', heq⟩)
    simp [kdrop, hne, kdrop_at h' hn.2]
theorem hasK_erase {M : List (Str × Bool)} (hM : MOk M) {e : Str × Bool} {i : Nat} (h : M[i]? = some e) (k : Str) : hasK (M.eraseIdx i) k = (hasK M k && !(k == e.1)) := by
  unfold hasK
  rw [← kdrop_at h hM.nd, kget_kdrop hM.nd]
  by_cases hk : k = e.1
  · simp [hk]
  · simp [hk]
theorem hasK_drop {M : List (Str × Bool)} (hM : MOk M) (x k : Str) : hasK (kdrop x M) k = (hasK M k && !(k == x)) := by
  unfold hasK
  rw [kget_kdrop hM.nd]
  by_cases hk : k = x
  · simp [hk]
  · simp [hk]
theorem kdrop_sub {M : List (Str × Bool)} (x : Str) : (kdrop x M).Sublist M := by
  induction M with
  | nil => exact List.Sublist.refl _
  | cons a r ih =>
    simp only [kdrop]
    split
    · exact List.sublist_cons_self ..
    · exact ih.cons_cons _
theorem MOk.sub {M M' : List (Str × Bool)} (h : MOk M) (hs : M'.Sublist M) : MOk M' :=
  ⟨h.nd.sublist (hs.map _), fun e he => h.tr e (hs.subset he)⟩
theorem nodup_at : ∀ {bs : List Nat} {i j s : Nat}, bs.Nodup → bs[i]? = some s → bs[j]? = some s → i = j
  | [], i, j, s, _, h, _ => by simp at h
  | b :: r, 0, 0, s, _, _, _ => rfl
  | b :: r, 0, j + 1, s, hn, h1, h2 => by
    simp at h1; subst h1
    exact absurd (List.mem_of_getElem? (by simpa using h2)) (List.nodup_cons.1 hn).1
  | b :: r, i + 1, 0, s, hn, h1, h2 => by
    simp at h2; subst h2
    exact absurd (List.mem_of_getElem? (by simpa using h1)) (List.nodup_cons.1 hn).1
  | b :: r, i + 1, j + 1, s, hn, h1, h2 => by
    exact congrArg (· + 1) (nodup_at (List.nodup_cons.1 hn).2 (by simpa using h1) (by simpa using h2))
/-- stamps that are still to come -/
def cntU (bs seen : List Nat) : Nat := bs.countP fun s => !decide (s ∈ seen)
theorem cntU_le (bs seen : List Nat) (s : Nat) : cntU bs (seen ++ [s]) ≤ cntU bs seen := by
  unfold cntU
  refine List.countP_mono_left fun x _ h => ?_
  simp at h ⊢; exact h.1
theorem cntU_lt {s : Nat} {seen : List Nat} (hs : s ∉ seen) : ∀ {bs : List Nat}, s ∈ bs → cntU bs (seen ++ [s]) < cntU bs seen
  | [], h => by cases h
  | b :: r, h => by
    have hle := cntU_le r seen s
    unfold cntU at hle ⊢
    simp only [List.countP_cons]
    rcases List.mem_cons.1 h with rfl | h
    · simp [hs]; simp at hle; omega
    · have ih := cntU_lt hs h
      unfold cntU at ih
      have : (if (!decide (b ∈ seen ++ [s])) = true then 1 else 0) ≤ (if (!decide (b ∈ seen)) = true then 1 else 0) := by
        by_cases hb : b ∈ seen
        · simp [hb]
        · by_cases hbs : b = s <;> simp [hb, hbs]
      omega
theorem cntU_erase (bs seen : List Nat) (i : Nat) : cntU (bs.eraseIdx i) seen ≤ cntU bs seen := (List.eraseIdx_sublist ..).countP_le
theorem zip_erase {α β : Type} : ∀ (l : List α) (r : List β) (i : Nat), (l.eraseIdx i).zip (r.eraseIdx i) = (l.zip r).eraseIdx i
  | [], r, i => by simp
  | a :: l, [], i => by cases i <;> simp
  | a :: l, b :: r, 0 => by simp
  | a :: l, b :: r, i + 1 => by simp [zip_erase l r i]

/-- what the loop along the map keeps -/
structure Lp (M : List (Str × Bool)) (bad : Str → Bool) (b : List (Str × Bool) × List Nat × List Nat) : Prop where
  ok : MOk b.1
  len : b.2.1.length = b.1.length
  nd : b.2.1.Nodup
  i1 : ∀ k, hasK b.1 k = true → hasK M k = true
  i2 : ∀ k, hasK M k = true → bad k = false → hasK b.1 k = true
  i3 : ∀ p, p ∈ b.1.zip b.2.1 → p.2 ∈ b.2.2 → bad p.1.1 = false
theorem Lp.keep {M : List (Str × Bool)} {bad : Str → Bool} {L : List (Str × Bool)} {bs seen : List Nat} (h : Lp M bad (L, bs, seen)) {i s : Nat} {e : Str × Bool} (he : L[i]? = some e) (hs : bs[i]? = some s) (hb : bad e.1 = false) : Lp M bad (L, bs, seen ++ [s]) := by
  refine ⟨h.ok, h.len, h.nd, h.i1, h.i2, fun p hp hps => ?_⟩
  rcases List.mem_append.1 hps with hps | hps
  · exact h.i3 p hp hps
  · simp at hps
    obtain ⟨j, hj⟩ := List.mem_iff_getElem?.1 hp
    obtain ⟨h1, h2⟩ := List.getElem?_zip_eq_some.1 hj
    rw [hps] at h2
    have := nodup_at h.nd hs h2
    subst this
    simp only at h1
    rw [he] at h1; simp at h1; rw [← h1]; exact hb
theorem Lp.drop {M : List (Str × Bool)} {bad : Str → Bool} {L : List (Str × Bool)} {bs seen : List Nat} (h : Lp M bad (L, bs, seen)) {i s : Nat} {e : Str × Bool} (he : L[i]? = some e) (hs : bs[i]? = some s) (hb : bad e.1 = true) : Lp M bad (L.eraseIdx i, bs.eraseIdx i, seen ++ [s]) := by
  have hlen : bs.length = L.length := h.len
  have hok : MOk L := h.ok
  refine ⟨hok.sub (List.eraseIdx_sublist ..), by show (bs.eraseIdx i).length = (L.eraseIdx i).length; rw [List.length_eraseIdx, List.length_eraseIdx, hlen], List.Nodup.sublist (List.eraseIdx_sublist ..) h.nd, fun k hk => ?_, fun k hk hkb => ?_, fun p hp hps => ?_⟩
  · have hk' : hasK (L.eraseIdx i) k = true := hk
    rw [hasK_erase hok he] at hk'
    simp at hk'
    exact h.i1 k hk'.1
  · show hasK (L.eraseIdx i) k = true
    rw [hasK_erase hok he]
    have h1 := h.i2 k hk hkb
    have hne : ¬ k = e.1 := by rintro rfl; rw [hb] at hkb; cases hkb
    simp [hne]; exact h1
  · have hp' : p ∈ (L.zip bs).eraseIdx i := by rw [← zip_erase]; exact hp
    have hpm : p ∈ L.zip bs := (List.eraseIdx_sublist ..).subset hp'
    rcases List.mem_append.1 hps with hps | hps
    · exact h.i3 p hpm hps
    · exfalso
      simp at hps
      have hz : (bs.eraseIdx i) = ((L.zip bs).eraseIdx i).map (·.2) := by
        rw [← zip_erase]
        rw [List.map_snd_zip (by rw [List.length_eraseIdx, List.length_eraseIdx, hlen]; exact Nat.le_refl _)]
      have hmem : s ∈ bs.eraseIdx i := by rw [hz, ← hps]; exact List.mem_map.2 ⟨p, hp', rfl⟩
      obtain ⟨j, hj⟩ := List.mem_iff_getElem?.1 hmem
      rw [List.getElem?_eraseIdx] at hj
      split at hj
      · have := nodup_at h.nd hs hj; omega
      · have := nodup_at h.nd hs hj; omega
theorem Lp.last {M : List (Str × Bool)} {bad : Str → Bool} {L : List (Str × Bool)} {bs seen : List Nat} (h : Lp M bad (L, bs, seen)) (hall : ∀ s, s ∈ bs → s ∈ seen) (k : Str) : hasK L k = (hasK M k && !(bad k)) := by
  have hlen : bs.length = L.length := h.len
  by_cases hk : hasK L k = true
  · obtain ⟨e, he, rfl⟩ := hasK_mem hk
    obtain ⟨i, hi⟩ := List.mem_iff_getElem?.1 he
    have hil : i < bs.length := by rw [hlen]; exact (List.getElem?_eq_some_iff.1 hi).1
    have hz : (L.zip bs)[i]? = some (e, bs[i]) := List.getElem?_zip_eq_some.2 ⟨hi, by simp [hil]⟩
    have := h.i3 (e, bs[i]) (List.mem_of_getElem? hz) (hall _ (by simp))
    have h1 := h.i1 e.1 hk
    simp only at this
    rw [hk, h1, this]; rfl
  · have hk' : hasK L k = false := by simpa using hk
    rw [hk']
    by_cases h1 : hasK M k = true
    · by_cases h2 : bad k = false
      · exact absurd (h.i2 k h1 h2) hk
      · have : bad k = true := by simpa using h2
        simp [this]
    · have : hasK M k = false := by simpa using h1
      simp [this]
end Go.GB.C11


/-
  D11D: contracts of chapter 11's functions: Possible of the program.
-/
namespace Go.GB.C11
open Go.GB
set_option linter.unusedSimpArgs false
set_option linter.unusedVariables false
set_option maxRecDepth 100000
set_option maxHeartbeats 2000000
variable {P : Program}

theorem str_comm (a b : Str) : (a == b) = (b == a) := by
  rw [Bool.eq_iff_iff]; simp only [beq_iff_eq]; exact eq_comm
/-- the names that Possible looks at -/
def initB (t : Def) (nm : Str) (ds : List Def) (k : Str) : Bool :=
  (t.kind == 1 && nm == k) || (t.kind == 2 && ds.any (fun x => decide (nm ∈ x.implements) && x.name == k)) || (t.kind == 3 && memF t.members k)
/-- the names that it leaves out -/
def badB (t : Def) (nm : Str) (ds : List Def) (k : Str) : Bool :=
  !(findDef k ds).isSome || ((findDef k ds).getD Def.zero).kind != 1 || (t.kind == 2 && !(decide (nm ∈ ((findDef k ds).getD Def.zero).implements)))
theorem find_first : ∀ {ds : List Def} {i : Nat} {x : Def}, ds[i]? = some x → firstF (ds.take i) x.name = true → findDef x.name ds = some x
  | [], i, x, h, _ => by simp at h
  | y :: r, 0, x, h, _ => by simp at h; subst h; simp [findDef]
  | y :: r, i + 1, x, h, hf => by
    have hne : ¬ (y.name == x.name) = true := by
      intro e; simp [firstF, e] at hf
    simp only [findDef]; rw [if_neg hne]
    refine find_first (i := i) (by simpa using h) ?_
    simp only [firstF, List.take_succ_cons, List.any_cons] at hf ⊢
    have : (y.name == x.name) = false := by simpa using hne
    rw [this, Bool.false_or] at hf; exact hf
theorem good_eq {ds : List Def} {t : Def} {nm : Str} {i : Nat} {x : Def} (h : ds[i]? = some x) (hf : firstF (ds.take i) x.name = true) : (initB t nm ds x.name && !(badB t nm ds x.name)) = (x.kind == 1 && isP t nm x) := by
  have e := find_first h hf
  have hm : x ∈ ds := List.mem_of_getElem? h
  unfold badB initB isP
  rw [e]
  simp only [Option.isSome_some, Option.getD_some, Bool.not_true, Bool.false_or, bne_b]
  by_cases h2 : t.kind = 2
  · have h1 : ¬ t.kind = 1 := by omega
    have h3 : ¬ t.kind = 3 := by omega
    by_cases hx : nm ∈ x.implements
    · have : (ds.any fun y => decide (nm ∈ y.implements) && y.name == x.name) = true := List.any_eq_true.2 ⟨x, hm, by simp [hx]⟩
      simp [h2, hx, this]
    · simp [h2, hx]
  · have e1 : (nm == x.name) = (x.name == nm) := str_comm _ _
    have h2' : (t.kind == 2) = false := by simpa using h2
    simp only [h2', e1, Bool.false_and, Bool.or_false, Bool.and_comm]
    cases (t.kind == 1 && x.name == nm) <;> cases (t.kind == 3 && memF t.members x.name) <;> cases (x.kind == 1) <;> rfl
theorem posL_zero (nm : Str) : ∀ (r pre : List Def), posL Def.zero nm pre r = []
  | [], pre => rfl
  | o :: r, pre => by
    have : isP Def.zero nm o = false := rfl
    simp only [posL, this, Bool.and_false, Bool.false_eq_true, if_false]
    exact posL_zero nm r _
theorem posF_eq (ds : List Def) (nm : Str) : posF ds nm = posL ((findDef nm ds).getD Def.zero) nm [] ds := by
  unfold posF
  cases findDef nm ds with
  | none => simp [posL_zero]
  | some t => rfl
theorem firstF_snoc (l : List Def) (x : Def) (k : Str) : firstF (l ++ [x]) k = (firstF l k && !(x.name == k)) := by
  simp [firstF, List.any_append, Bool.not_or]

theorem possible_ok (H : Pr P) (ds : List Def) (hD : DocOk ds) (nm : Str) : FnOk P 20 [docV ds, .t (.str nm)] ⟨[], 0⟩ { v := .t (.lst ((posF ds nm).map sE)) } := by
  have hl := hD.l
  have hlb := hD.lb
  have hT := docFind hD nm
  have hpos := posF_eq ds nm
  refine FnOk.run H.i20 H.mixed rfl rfl ?_
  refine fR rfl ?_
  refine Mid.call (find_ok H ds hl nm) rfl rfl rfl rfl ?_
  refine fM rfl ?_
  generalize (findDef nm ds).getD Def.zero = t at hT hpos
  have tail : ∀ M : List (Str × Bool), MOk M → (∀ k, hasK M k = initB t nm ds k) → Run P n20 (⟨[], 0⟩ : S).nxt (EndOk ⟨[], 0⟩ { v := .t (.lst ((posF ds nm).map sE)) } r38 AExit.ret)
      [It.c (.region false [⟨some 60, none, .mv (.s 7)⟩, ⟨some 61, none, .mrange (.s 60)⟩] [] [1, 2, 5, 7, 61]), It.c c20_23, It.c c20_13]
      { env := [(1, .t (.str nm)), (2, .ptr 0 0), (5, .ptr 1 0), (7, .mp 2)], s := ⟨[(0, .cells [.t (.lst (ds.map Def.enc))]), (1, .cells [.t (.int .i64 t.kind), .t (.str t.name), .t (.lst (t.implements.map sE)), .t (.lst (t.dirs.map Dir.enc)), .t (.lst (t.fields.map Field.enc)), .t (.lst (t.members.map Member.enc)), .t (.lst (t.inputs.map Input.enc))]), (2, .map false (mE sE bE M) none)], 3⟩ } := by
    intro M hM hMk
    refine Run.learn (q := 2) rfl rfl (fun cl bs hbl hbn hblt => ?_)
    refine fR rfl ?_
    refine Mid.mrangeT rfl rfl rfl ?_
    refine Mid.done0 rfl ?_
    refine rLoopM (β := List (Str × Bool) × List Nat × List Nat) (fun b => { env := [(1, .t (.str nm)), (2, .ptr 0 0), (5, .ptr 1 0), (7, .mp 2), (61, .ptr 3 0)], s := ⟨[(0, .cells [.t (.lst (ds.map Def.enc))]), (1, .cells [.t (.int .i64 t.kind), .t (.str t.name), .t (.lst (t.implements.map sE)), .t (.lst (t.dirs.map Dir.enc)), .t (.lst (t.fields.map Field.enc)), .t (.lst (t.members.map Member.enc)), .t (.lst (t.inputs.map Input.enc))]), (2, .map false (mE sE bE b.1) (some (cl, b.2.1))), (3, .iter 2 cl b.2.2 cl)], 4⟩ })
      (Lp M (badB t nm ds)) (fun b => cntU b.2.1 b.2.2) 4 (M, bs, []) rfl ⟨hM, by simpa [mE] using hbl, hbn, fun _ h => h, fun _ h _ => h, fun p hp h => by cases h⟩ rfl rfl rfl ?_
    rintro ⟨L, bs', seen⟩ hinv ih
    refine Run.nxt rfl rfl rfl rfl rfl (fun hall => ?_) (fun i e s he hs hns => ?_)
    · have hG := hinv.last hall
      have hLok : MOk L := hinv.ok
      refine fM rfl ?_
      refine Run.condF rfl rfl rfl ?_
      refine fR rfl ?_
      refine lM rfl rfl rfl ?_
      refine fM rfl ?_
      refine rList ds (fun i (B : List Str × List (Str × Bool)) => { env := [(7, .mp 2), (15, .own 4 1 (B.1.map sE)), (93, .t (.lst (ds.map Def.enc))), (94, .t (.int .i64 ds.length)), (95, .t (.int .i64 i))], s := ⟨[(2, .map false (mE sE bE B.2) none), (4, .arr B.1.length)], 5⟩ }) (fun r i B => B.1.length ≤ i ∧ MOk B.2 ∧ (∀ k, hasK B.2 k = (hasK L k && firstF (ds.take i) k)) ∧ posF ds nm = B.1 ++ posL t nm (ds.take i) r) 4 ([], L) rfl ⟨by simp, hLok, by intro k; simp [firstF], by rw [hpos]; simp⟩ rfl rfl rfl ?_ ?_
      · rintro ⟨B, N⟩ ⟨_, _, _, hB⟩
        obtain rfl : B = posF ds nm := by rw [hB]; simp [posL]
        refine fR rfl ?_
        refine Run.condF rfl rfl (by simp) ?_
        refine fR rfl ?_
        refine Run.fin rfl (EndOk.go ?_); exact .own rfl
      · rintro i x r ⟨B, N⟩ h1 hi hd ⟨hBl, hN, hNk, hB⟩ ih2
        have hBl' : B.length ≤ i := hBl
        have hNok : MOk N := hN
        have htk : ds.take i ++ [x] = ds.take (i + 1) := by rw [List.take_add_one, h1]; rfl
        have hx := hNk x.name
        refine fR rfl ?_
        refine Run.condT rfl rfl (by simp; omega) ?_
        refine fR rfl ?_
        refine Mid.elemMap rfl rfl rfl h1 rfl rfl ?_
        refine fM rfl ?_
        refine Mid.lookT (x.name) rfl rfl rfl rfl rfl (sE_ok) rfl ?_
        refine fM rfl ?_
        rw [hNok.get]
        refine Run.cond rfl rfl (fun hc => ?_) (fun hc => ?_)
        · have hc2 : hasK L x.name = true ∧ firstF (ds.take i) x.name = true := by
            have : hasK N x.name = true := hc
            rw [this] at hx; simpa using hx.symm
          have hg : (x.kind == 1 && isP t nm x) = true := by rw [← good_eq h1 hc2.2, ← hMk, ← hG]; exact hc2.1
          have hsel : (x.kind == 1 && firstF (ds.take i) x.name && isP t nm x) = true := by
            rw [hc2.2, Bool.and_true]; exact hg
          refine fR rfl ?_
          refine apM sE B [x.name] rfl rfl rfl rfl rfl ?_
          refine fM rfl ?_
          refine Mid.delT x.name rfl rfl rfl sE_ok rfl ?_
          refine fM rfl ?_
          refine aL rfl rfl rfl rfl rfl ?_
          refine fM rfl ?_
          exact rWeak 5 rfl (ih2 (B ++ [x.name], kdrop x.name N) ⟨by simp; omega, hNok.sub (kdrop_sub _), by
            intro k
            show hasK (kdrop x.name N) k = _
            rw [hasK_drop hNok, show hasK N k = _ from hNk k, ← htk, firstF_snoc]
            rw [str_comm k x.name, Bool.and_assoc], by rw [hB]; simp only [posL]; rw [if_pos hsel, htk]; simp⟩) rfl rfl rfl
        · have hcN : hasK N x.name = false := hc
          have hsel : ¬ (x.kind == 1 && firstF (ds.take i) x.name && isP t nm x) = true := by
            intro hs
            simp only [Bool.and_eq_true] at hs
            have hg : (x.kind == 1 && isP t nm x) = true := by rw [hs.1.1, hs.2]; rfl
            rw [← good_eq h1 hs.1.2, ← hMk, ← hG] at hg
            rw [hcN, hg, hs.1.2] at hx
            cases hx
          refine fR rfl ?_
          refine aL rfl rfl rfl rfl rfl ?_
          refine fM rfl ?_
          exact rWeak 5 rfl (ih2 (B, N) ⟨by omega, hNok, by
            intro k
            show hasK N k = _
            rw [show hasK N k = _ from hNk k, ← htk, firstF_snoc]
            by_cases e : x.name = k
            · subst e
              rw [show hasK N x.name = _ from hNk x.name] at hcN
              rw [hcN]; simp
            · have e' : (x.name == k) = false := by simpa using e
              rw [e']; simp, by rw [hB]; simp only [posL]; rw [if_neg hsel, htk]⟩) rfl rfl rfl
    · have hbn' : bs'.Nodup := hinv.nd
      have hLok : MOk L := hinv.ok
      have hsm : s ∈ bs' := List.mem_of_getElem? hs
      have hO := docFind hD e.1
      have hil := hO.il
      have hlt : cntU bs' (seen ++ [s]) < cntU bs' seen := cntU_lt hns hsm
      refine fM rfl ?_
      refine Run.condT rfl rfl rfl ?_
      refine fR rfl ?_
      refine Mid.ientT (i := i) (z := s) rfl rfl rfl (by simp) he hs hbn' rfl ?_
      refine fM rfl ?_
      refine Mid.call (find_ok H ds hl e.1) rfl rfl rfl rfl ?_
      refine fM rfl ?_
      refine caG rfl rfl (fun hg => ⟨_, rfl, implements_ok H ((findDef e.1 ds).getD Def.zero) hO nm, rfl⟩) rfl rfl ?_
      refine fM rfl ?_
      refine Run.cond rfl rfl (fun hb => ?_) (fun hb => ?_)
      · have hb' : badB t nm ds e.1 = true := by simpa [badB, bne_b] using hb
        refine fR rfl ?_
        refine Mid.delI (i := i) rfl rfl he hLok.nd rfl sE_ok rfl ?_
        refine fM rfl ?_
        exact rWeak 4 rfl (ih (L.eraseIdx i, bs'.eraseIdx i, seen ++ [s]) (by have := cntU_erase bs' (seen ++ [s]) i; show cntU (bs'.eraseIdx i) (seen ++ [s]) < cntU bs' seen; omega) (hinv.drop he hs hb')) rfl rfl rfl
      · have hb' : badB t nm ds e.1 = false := by simpa [badB, bne_b] using hb
        skip
        exact rWeak 4 rfl (ih (L, bs', seen ++ [s]) hlt (hinv.keep he hs hb')) rfl rfl rfl
  refine Mid.mkmapT sE bE rfl ?_
  refine fM rfl ?_
  refine Run.cond rfl rfl (fun h1 => ?_) (fun h1 => ?_)
  · have h1' : t.kind = 1 := by simpa using h1
    refine fR rfl ?_
    refine Mid.mapT nm rfl rfl rfl rfl sE_ok rfl ?_
    refine Mid.done0 rfl ?_
    exact rWeakC 3 rfl (tail (kset nm true []) (MOk.nil.kset nm) (by intro k; rw [hasK_kset]; simp [initB, h1', hasK, kget])) rfl rfl rfl
  · have h1' : ¬ t.kind = 1 := by simpa using h1
    refine fR rfl ?_
    refine Run.cond rfl rfl (fun h2 => ?_) (fun h2 => ?_)
    · have h2' : t.kind = 2 := by simpa using h2
      refine fR rfl ?_
      refine lM rfl rfl rfl ?_
      refine fM rfl ?_
      refine rList ds (fun i (M : List (Str × Bool)) => { env := [(1, .t (.str nm)), (2, .ptr 0 0), (5, .ptr 1 0), (7, .mp 2), (34, .t (.lst (ds.map Def.enc))), (35, .t (.int .i64 ds.length)), (36, .t (.int .i64 i))], s := ⟨[(0, .cells [.t (.lst (ds.map Def.enc))]), (1, .cells [.t (.int .i64 t.kind), .t (.str t.name), .t (.lst (t.implements.map sE)), .t (.lst (t.dirs.map Dir.enc)), .t (.lst (t.fields.map Field.enc)), .t (.lst (t.members.map Member.enc)), .t (.lst (t.inputs.map Input.enc))]), (2, .map false (mE sE bE M) none)], 3⟩ }) (fun r i M => MOk M ∧ ∀ k, (hasK M k || r.any (fun x => decide (nm ∈ x.implements) && x.name == k)) = ds.any (fun x => decide (nm ∈ x.implements) && x.name == k)) 3 [] rfl ⟨MOk.nil, fun k => by simp [hasK, kget]⟩ rfl rfl rfl ?_ ?_
      · rintro M ⟨hM, hMk⟩
        refine fR rfl ?_
        refine Run.condF rfl rfl (by simp) ?_
        exact rWeakC 3 rfl (tail M hM (by intro k; have := hMk k; simp only [List.any_nil, Bool.or_false] at this; rw [this]; simp [initB, h2'])) rfl rfl rfl
      · rintro i x r M hx1 hi hd ⟨hM, hMk⟩ ih
        have hxo := hD.d x (List.mem_of_getElem? hx1)
        refine fR rfl ?_
        refine Run.condT rfl rfl (by simp; omega) ?_
        refine fR rfl ?_
        refine Mid.elemMap rfl rfl rfl hx1 rfl rfl ?_
        refine fM rfl ?_
        refine Mid.call (implements_ok H x hxo nm) rfl rfl rfl rfl ?_
        refine fM rfl ?_
        refine Run.cond rfl rfl (fun hc => ?_) (fun hc => ?_)
        · refine fR rfl ?_
          refine Mid.mapT (x.name) rfl rfl rfl rfl (sE_ok) rfl ?_
          refine fM rfl ?_
          refine aL rfl rfl rfl rfl rfl ?_
          refine fM rfl ?_
          exact rWeak 3 rfl (ih (kset x.name true M) ⟨hM.kset _, fun k => by
            rw [← hMk k, hasK_kset]
            have : decide (nm ∈ x.implements) = true := hc
            simp only [List.any_cons, this, Bool.true_and]
            cases (x.name == k) <;> cases (hasK M k) <;> simp⟩) rfl rfl rfl
        · refine fR rfl ?_
          refine aL rfl rfl rfl rfl rfl ?_
          refine fM rfl ?_
          exact rWeak 3 rfl (ih M ⟨hM, fun k => by
            rw [← hMk k]
            have : decide (nm ∈ x.implements) = false := hc
            simp only [List.any_cons, this, Bool.false_and, Bool.false_or]⟩) rfl rfl rfl
    · have h2' : ¬ t.kind = 2 := by simpa using h2
      refine fR rfl ?_
      refine Run.cond rfl rfl (fun h3 => ?_) (fun h3 => ?_)
      · have h3' : t.kind = 3 := by simpa using h3
        have hml := hT.ml
        refine fR rfl ?_
        refine lM rfl rfl rfl ?_
        refine fM rfl ?_
        refine rList t.members (fun i (M : List (Str × Bool)) => { env := [(1, .t (.str nm)), (2, .ptr 0 0), (5, .ptr 1 0), (7, .mp 2), (50, .t (.lst (t.members.map Member.enc))), (51, .t (.int .i64 t.members.length)), (52, .t (.int .i64 i))], s := ⟨[(0, .cells [.t (.lst (ds.map Def.enc))]), (1, .cells [.t (.int .i64 t.kind), .t (.str t.name), .t (.lst (t.implements.map sE)), .t (.lst (t.dirs.map Dir.enc)), .t (.lst (t.fields.map Field.enc)), .t (.lst (t.members.map Member.enc)), .t (.lst (t.inputs.map Input.enc))]), (2, .map false (mE sE bE M) none)], 3⟩ }) (fun r i M => MOk M ∧ ∀ k, (hasK M k || memF r k) = memF t.members k) 3 [] rfl ⟨MOk.nil, fun k => by simp [hasK, kget]⟩ rfl rfl rfl ?_ ?_
        · rintro M ⟨hM, hMk⟩
          refine fR rfl ?_
          refine Run.condF rfl rfl (by simp) ?_
          exact rWeakC 3 rfl (tail M hM (by intro k; have := hMk k; simp only [memF, List.any_nil, Bool.or_false] at this; rw [this]; simp [initB, h3', memF])) rfl rfl rfl
        · rintro i x r M hx1 hi hd ⟨hM, hMk⟩ ih
          refine fR rfl ?_
          refine Run.condT rfl rfl (by simp; omega) ?_
          refine fR rfl ?_
          refine Mid.elemMap rfl rfl rfl hx1 rfl rfl ?_
          refine fM rfl ?_
          refine Mid.mapT (x.name) rfl rfl rfl rfl (sE_ok) rfl ?_
          refine fM rfl ?_
          refine aL rfl rfl rfl rfl rfl ?_
          refine fM rfl ?_
          exact rWeak 3 rfl (ih (kset x.name true M) ⟨hM.kset _, fun k => by
            rw [← hMk k, hasK_kset]
            simp only [memF, List.any_cons]
            cases (x.name == k) <;> cases (hasK M k) <;> simp⟩) rfl rfl rfl
      · have h3' : ¬ t.kind = 3 := by simpa using h3
        exact rWeakC 3 rfl (tail [] MOk.nil (by intro k; simp [initB, hasK, kget, h1', h2', h3'])) rfl rfl rfl
end Go.GB.C11


/-
  N29A: contracts of chapter 29's functions: roots, copies of picks.
-/
namespace Go.GB.C29
open Go.GB
set_option linter.unusedSimpArgs false
set_option linter.unusedVariables false
set_option maxRecDepth 100000
set_option maxHeartbeats 8000000
structure Pr29 (P : Program) : Prop where
  p26 : C26.Pr P
  p11 : C11.Pr P
  mixed : P.follows .mixedOrders = true
  i3 : fnInfo P 3 = some (n3, c3.bare, r3)
  i4 : fnInfo P 4 = some (n4, c4.bare, r4)
  i8 : fnInfo P 8 = some (n8, c8.bare, r8)
  i10 : fnInfo P 10 = some (n10, c10.bare, r10)
  i11 : fnInfo P 11 = some (n11, c11.bare, r11)
  i5 : fnInfo P 5 = some (n5, c5.bare, r5)
  i6 : fnInfo P 6 = some (n6, c6.bare, r6)
  i7 : fnInfo P 7 = some (n7, c7.bare, r7)
  i9 : fnInfo P 9 = some (n9, c9.bare, r9)
  i13 : fnInfo P 13 = some (n13, c13.bare, r13)
  i14 : fnInfo P 14 = some (n14, c14.bare, r14)
  i15 : fnInfo P 15 = some (n15, c15.bare, r15)
  i12 : fnInfo P 12 = some (n12, c12.bare, r12)
  i18 : fnInfo P 18 = some (n18, c18.bare, r18)
  i19 : fnInfo P 19 = some (n19, c19.bare, r19)
  i21 : fnInfo P 21 = some (n21, c21.bare, r21)
  i22 : fnInfo P 22 = some (n22, c22.bare, r22)
  i24 : fnInfo P 24 = some (n24, c24.bare, r24)
  i25 : fnInfo P 25 = some (n25, c25.bare, r25)
  i26 : fnInfo P 26 = some (n26, c26.bare, r26)
  i32 : fnInfo P 32 = some (n32, c32.bare, r32)
  i35 : fnInfo P 35 = some (n35, c35.bare, r35)
  i36 : fnInfo P 36 = some (n36, c36.bare, r36)
variable {P : Program}
def rootF (k : Int) : Str := if k = 1 then [81, 117, 101, 114, 121] else if k = 2 then [77, 117, 116, 97, 116, 105, 111, 110] else if k = 3 then [83, 117, 98, 115, 99, 114, 105, 112, 116, 105, 111, 110] else []
theorem root_step (f : FuncId) (hi : fnInfo P f = some (n13, c13.bare, r13)) (hm : P.follows .mixedOrders = true) (k : Int) : FnOk P f [.t (.int .i64 k)] ⟨[], 0⟩ { v := .t (.str (rootF k)) } := by
  refine FnOk.run hi hm rfl rfl ?_
  refine fR rfl ?_
  refine Run.cond rfl rfl (fun h1 => ?_) (fun h1 => ?_)
  · have h' : k = 1 := by simpa using h1
    refine fR rfl ?_
    refine Run.fin rfl (EndOk.go ?_); exact .t (by unfold rootF; rw [if_pos h'])
  · have h1' : ¬ k = 1 := by simpa using h1
    refine fR rfl ?_
    refine Run.cond rfl rfl (fun h2 => ?_) (fun h2 => ?_)
    · have h' : k = 2 := by simpa using h2
      refine fR rfl ?_
      refine Run.fin rfl (EndOk.go ?_); exact .t (by unfold rootF; rw [if_neg h1', if_pos h'])
    · have h2' : ¬ k = 2 := by simpa using h2
      refine fR rfl ?_
      refine Run.cond rfl rfl (fun h3 => ?_) (fun h3 => ?_)
      · have h' : k = 3 := by simpa using h3
        refine fR rfl ?_
        refine Run.fin rfl (EndOk.go ?_); exact .t (by unfold rootF; rw [if_neg h1', if_neg h2', if_pos h'])
      · have h' : ¬ k = 3 := by simpa using h3
        refine fR rfl ?_
        refine Run.fin rfl (EndOk.go ?_); exact .t (by unfold rootF; rw [if_neg h1', if_neg h2', if_neg h'])
theorem root_ok (H : Pr29 P) (k : Int) : FnOk P 13 [.t (.int .i64 k)] ⟨[], 0⟩ { v := .t (.str (rootF k)) } := root_step 13 H.i13 H.mixed k
theorem cloneA_ok (H : Pr29 P) (l : List Arg) (hl : l.length * 96 ≤ 140737488355328) : FnOk P 18 [.t (.lst (l.map Arg.enc))] ⟨[], 0⟩ { v := .t (.lst (l.map Arg.enc)) } := by
  refine FnOk.run H.i18 H.mixed rfl rfl ?_
  refine fR rfl ?_
  refine p0 rfl ?_
  refine fM rfl ?_
  refine Run.condU rfl rfl (fun h => ?_) (fun _ => ?_)
  · have hn : l = [] := by
      cases l with
      | nil => rfl
      | cons x r =>
        have := h (Arg.enc x) (by simp)
        simp [Arg.enc] at this
    subst hn
    refine fR rfl ?_
    refine Run.fin rfl (EndOk.go ?_); exact .nil rfl
  · refine fR rfl ?_
    refine apN Arg.enc l rfl rfl rfl ?_ (h1 := hl) (h2 := by omega)
    refine fM rfl ?_
    refine Run.fin rfl (EndOk.go ?_); exact .own rfl
theorem cloneW_ok (H : Pr29 P) (l : List Int) (hl : l.length * 8 ≤ 140737488355328) : FnOk P 19 [.t (.lst (l.map nE))] ⟨[], 0⟩ { v := .t (.lst (l.map nE)) } := by
  refine FnOk.run H.i19 H.mixed rfl rfl ?_
  refine fR rfl ?_
  refine p0 rfl ?_
  refine fM rfl ?_
  refine Run.condU rfl rfl (fun h => ?_) (fun _ => ?_)
  · have hn : l = [] := by
      cases l with
      | nil => rfl
      | cons x r =>
        have := h (nE x) (by simp)
        simp [nE] at this
    subst hn
    refine fR rfl ?_
    refine Run.fin rfl (EndOk.go ?_); exact .nil rfl
  · refine fR rfl ?_
    refine apN nE l rfl rfl rfl ?_ (h1 := hl) (h2 := by omega)
    refine fM rfl ?_
    refine Run.fin rfl (EndOk.go ?_); exact .own rfl
def CopC (P : Program) (p : Pick) : Prop := FnOk P 14 [p.v] ⟨[], 0⟩ { v := p.v }
theorem cop_step (H : Pr29 P) (p : Pick) (hp : p.Ok) (hrec : ∀ x, x ∈ p.picks → CopC P x) : CopC P p := by
  have hal := hp.al
  have hw := hp.t.l
  have hpl := hp.pl
  unfold CopC
  refine FnOk.run H.i14 H.mixed rfl rfl ?_
  refine fR rfl ?_
  refine Mid.call (cloneA_ok H p.args hal) rfl rfl rfl rfl ?_
  refine fM rfl ?_
  refine Mid.call (cloneW_ok H p.ty.wraps hw) rfl rfl rfl rfl ?_
  refine fM rfl ?_
  refine lM rfl rfl rfl ?_
  refine fM rfl ?_
  refine rList p.picks (fun i (B : List Pick) => { env := [(1, .ptr 0 0), (2, .ptr 1 0), (19, .t (.lst (p.picks.map Pick.enc))), (20, .t (.int .i64 p.picks.length)), (21, .t (.int .i64 i))], s := ⟨[(0, .cells [.t (.str p.key), .t (.str p.on), .t (.str p.name), .t (.lst (p.args.map Arg.enc)), .t (.str p.ty.name), .t (.lst (p.ty.wraps.map nE)), .t (.str p.label), .t (.int .i64 p.initial), .own 2 9 (B.map Pick.enc)]), (1, .cells [.t (.str []), .t (.str []), .t (.str []), .nils, .t (.str []), .nils, .t (.str []), .t (.int .i64 0), .nils]), (2, .arr B.length)], 3⟩ }) (fun r i B => B = p.picks.take i) 2 [] rfl rfl rfl rfl rfl ?_ ?_
  · intro B hB
    rw [List.take_length] at hB
    refine fR rfl ?_
    refine Run.condF rfl rfl (by simp) ?_
    refine fR rfl ?_
    refine Run.fin rfl (EndOk.go ?_); exact .agg (.cons (.t rfl) (.cons (.t rfl) (.cons (.t rfl) (.cons (.t rfl) (.cons (.t rfl) (.cons (.t rfl) (.cons (.t rfl) (.cons (.t rfl) (.cons (.own (by rw [hB])) .nil)))))))))
  · intro i x r B h1 hi hd hB ih
    have hc := hrec x (List.mem_of_getElem? h1)
    unfold CopC at hc
    have hBl : B.length = i := by rw [hB]; simp; omega
    refine fR rfl ?_
    refine Run.condT rfl rfl (by simp; omega) ?_
    refine fR rfl ?_
    refine Mid.elemMapC (Pick.enc_eq x) rfl rfl rfl h1 rfl rfl ?_
    refine fM rfl ?_
    refine Mid.call (hc) rfl rfl rfl rfl ?_
    refine fM rfl ?_
    refine apM Pick.enc B [x] rfl (congrArg (fun c => some (T.lst [c])) (Pick.enc_eq x).symm) rfl rfl rfl ?_ (hl := fun x => (congrArg List.length (Pick.enc_eq x)).trans rfl)
    refine fM rfl ?_
    refine aL rfl rfl rfl rfl rfl ?_
    refine fM rfl ?_
    exact rWeak 3 rfl (ih (B ++ [x]) (by rw [hB, List.take_add_one, h1]; rfl)) rfl rfl rfl
theorem cop_ok' (H : Pr29 P) : ∀ (k : Nat) (p : Pick), SizeOf.sizeOf p ≤ k → p.Ok → CopC P p
  | 0, p, h, _ => by cases p; simp at h
  | k + 1, p, h, hp => cop_step H p hp fun x hx => cop_ok' H k x (by have := Pick.size_picks p hx; omega) (hp.p x hx)
theorem cop_ok (H : Pr29 P) (p : Pick) (hp : p.Ok) : FnOk P 14 [p.v] ⟨[], 0⟩ { v := p.v } := cop_ok' H _ p (Nat.le_refl _) hp
def onF (l : List Pick) (s : Str) : List Pick := l.filter fun p => p.on == s
theorem onF_take {l : List Pick} {i : Nat} {x : Pick} {s : Str} (h : l[i]? = some x) : onF (l.take (i + 1)) s = onF (l.take i) s ++ if (x.on == s) = true then [x] else [] := by
  rw [List.take_add_one, h]
  unfold onF
  rw [List.filter_append]
  congr 1
  simp only [Option.toList_some, List.filter_cons, List.filter_nil]
theorem of_ok (H : Pr29 P) (l : List Pick) (hl : l.length * 160 ≤ 140737488355328) (ho : ∀ x, x ∈ l → x.Ok) (s : Str) : FnOk P 21 [.t (.lst (l.map Pick.enc)), .t (.str s)] ⟨[], 0⟩ { v := .t (.lst ((onF l s).map Pick.enc)) } := by
  refine FnOk.run H.i21 H.mixed rfl rfl ?_
  refine fR rfl ?_
  refine lM rfl rfl rfl ?_
  refine fM rfl ?_
  refine rList l (fun i (B : List Pick) => { env := [(1, .t (.str s)), (5, .own 0 9 (B.map Pick.enc)), (8, .t (.lst (l.map Pick.enc))), (9, .t (.int .i64 l.length)), (10, .t (.int .i64 i))], s := ⟨[(0, .arr B.length)], 1⟩ }) (fun r i B => B = onF (l.take i) s) 0 [] rfl rfl rfl rfl rfl ?_ ?_
  · intro B hB
    rw [List.take_length] at hB
    refine fR rfl ?_
    refine Run.condF rfl rfl (by simp) ?_
    refine fR rfl ?_
    refine Run.fin rfl (EndOk.go ?_); exact .own (by rw [hB])
  · intro i x r B h1 hi hd hB ih
    have hc := cop_ok H x (ho x (List.mem_of_getElem? h1))
    have hBl : B.length ≤ i := by rw [hB]; have := List.length_filter_le (fun p : Pick => p.on == s) (l.take i); simp only [onF]; simp at this ⊢; omega
    have hs := onF_take (s := s) h1
    refine fR rfl ?_
    refine Run.condT rfl rfl (by simp; omega) ?_
    refine fR rfl ?_
    refine Mid.elemMapC (Pick.enc_eq x) rfl rfl rfl h1 rfl rfl ?_
    refine fM rfl ?_
    by_cases he : (x.on == s) = true
    · rw [if_pos he] at hs
      refine Run.condT rfl rfl he ?_
      refine fR rfl ?_
      refine Mid.call (hc) rfl rfl rfl rfl ?_
      refine fM rfl ?_
      refine apM Pick.enc B [x] rfl (congrArg (fun c => some (T.lst [c])) (Pick.enc_eq x).symm) rfl rfl rfl ?_ (hl := fun x => (congrArg List.length (Pick.enc_eq x)).trans rfl)
      refine fM rfl ?_
      refine aL rfl rfl rfl rfl rfl ?_
      refine fM rfl ?_
      exact rWeak 1 rfl (ih (B ++ [x]) (by rw [hB, hs])) rfl rfl rfl
    · rw [if_neg he, List.append_nil] at hs
      refine Run.condF rfl rfl (by simpa using he) ?_
      refine fR rfl ?_
      refine aL rfl rfl rfl rfl rfl ?_
      refine fM rfl ?_
      exact rWeak 1 rfl (ih B (by rw [hB, hs])) rfl rfl rfl
end Go.GB.C29


/-
  N29B: contracts of chapter 29's functions: the spots of a child, as a slice of their own.
-/
namespace Go.GB.C26
open Go.GB
set_option linter.unusedSimpArgs false
set_option linter.unusedVariables false
set_option maxRecDepth 100000
set_option maxHeartbeats 8000000
variable {P : Program}
section
variable {s : Super} {name : Str} {here sp : List Spot} {js : List Join} {ks : List KeyO} {F : List (Str × Int)} {A : List Int}
theorem childO_ok (H : Pr P) (h : Sol s name here sp js ks F A) (hjl : js.length ≤ 1000) (f : Str) : FnOk P 23 [s.v, .t (.str name), .t (.lst (here.map Spot.enc)), .t (.str f)] ⟨[], 0⟩ { v := .gsl 5 (childG s.graphs.length sp js ks F A f 0 s.graphs.length []).length 0 (childG s.graphs.length sp js ks F A f 0 s.graphs.length []).length 3, ob := [(5, .gro (childG s.graphs.length sp js ks F A f 0 s.graphs.length []).length (gE (gT Spot.enc) (childG s.graphs.length sp js ks F A f 0 s.graphs.length [])))], n := 6 } := by
  have h1 := h.h1
  have h2 := h.hN.lenA
  have h3 := h.hN.jsL
  refine FnOk.run H.i23 H.mixed rfl rfl ?_
  refine fR rfl ?_
  refine Mid.callR [] (solve_ok1 H h) rfl rfl rfl rfl rfl (by repeat' (first | exact trivial | exact rfl | refine And.intro ?_ ?_ | exact (congrArg some (AObj.ren_mE _ _ _ _ _ _)).symm | exact (congrArg some (AObj.ren_cE _ _ _)).symm | (refine (congrArg some (AObj.ren_gE ?_ _ _)).symm; intro _; rfl))) rfl rfl (ob' := [(2, .map false (mE sE iE F) none), (3, .cells (cE iE A)), (4, .cells (nC4 s sp js ks))]) ((by simp only [renOb, AObj.ren_mE, AObj.ren_cE]; rfl)) rfl rfl ?_
  refine fM rfl ?_
  refine lM rfl rfl rfl ?_
  refine fM rfl ?_
  refine rList s.graphs (fun i (B : List Spot) => { env := [(3, .t (.str f)), (9, .ptr 4 0), (10, .gsl 5 B.length 0 B.length 3), (21, .t (.int .i64 s.graphs.length)), (22, .t (.int .i64 i))], s := ⟨[(2, .map false (mE sE iE F) none), (3, .cells (cE iE A)), (4, .cells (nC4 s sp js ks)), (5, .gro B.length (gE (gT Spot.enc) B))], 6⟩ }) (fun r i B => B.length ≤ i * js.length ∧ childG s.graphs.length sp js ks F A f 0 s.graphs.length [] = childG s.graphs.length sp js ks F A f i r.length B) 5 [] rfl ⟨by simp, rfl⟩ rfl rfl rfl ?_ ?_
  · rintro B ⟨_, hinv⟩
    refine fR rfl ?_
    refine Run.condF rfl rfl (by simp) ?_
    refine fR rfl ?_
    have e : childG s.graphs.length sp js ks F A f 0 s.graphs.length [] = B := by rw [hinv]; rfl
    rw [e]
    refine Run.fin rfl (EndOk.chg rfl rfl ?_ ?_)
    · exact .le (.same rfl)
    · exact ⟨.inl ⟨Nat.le_of_ble_eq_true rfl, _, rfl, .gro (.gE rfl fun _ => rfl)⟩, trivial⟩
  · rintro i x r B hi1 hi hd ⟨hl, hinv⟩ ih
    have hl2 : i * js.length ≤ 2000 * js.length := Nat.mul_le_mul_right _ (by omega)
    refine fR rfl ?_
    refine Run.condT rfl rfl (by simp; omega) ?_
    refine fR rfl ?_
    refine lM rfl rfl rfl ?_
    refine fM rfl ?_
    refine rList js (fun k (C : List Spot) => { env := [(3, .t (.str f)), (9, .ptr 4 0), (10, .gsl 5 C.length 0 C.length 3), (11, .t (.int .i64 i)), (21, .t (.int .i64 s.graphs.length)), (22, .t (.int .i64 i)), (28, .t (.lst (js.map Join.enc))), (29, .t (.int .i64 js.length)), (30, .t (.int .i64 k))], s := ⟨[(2, .map false (mE sE iE F) none), (3, .cells (cE iE A)), (4, .cells (nC4 s sp js ks)), (5, .gro C.length (gE (gT Spot.enc) C))], 6⟩ }) (fun r k C => C.length ≤ i * js.length + k ∧ childP s.graphs.length sp ks F A f i js B = childP s.graphs.length sp ks F A f i r C) 6 B rfl ⟨by simpa using hl, rfl⟩ rfl rfl rfl ?_ ?_
    · rintro C ⟨hCl, hC⟩
      refine fR rfl ?_
      refine Run.condF rfl rfl (by simp) ?_
      refine fR rfl ?_
      refine aL rfl rfl rfl rfl rfl ?_
      refine fM rfl ?_
      exact rWeak 6 rfl (ih C ⟨by rw [Nat.succ_mul]; omega, by rw [hinv]; simp only [List.length_cons, childG]; rw [hC]; rfl⟩) rfl rfl rfl
    · rintro k j r' C hk1 hk hkd ⟨hCl, hC⟩ ihk
      refine fR rfl ?_
      refine Run.condT rfl rfl (by simp; omega) ?_
      refine fR rfl ?_
      refine Mid.elemMap rfl rfl rfl hk1 rfl rfl ?_
      refine fM rfl ?_
      refine Run.cond rfl rfl (fun hc => ?_) (fun hc => ?_)
      · refine fR rfl ?_
        refine aL rfl rfl rfl rfl rfl ?_
        refine fM rfl ?_
        have hc2 : (!(j.field == f) || !(j.graph == i) || j.ext) = true := hc
        exact rWeak 6 rfl (ihk C ⟨by omega, by rw [hC]; simp only [childP]; rw [if_pos hc2]⟩) rfl rfl rfl
      · have hc2 : ¬ (!(j.field == f) || !(j.graph == i) || j.ext) = true := by
          intro e; rw [show (!(j.field == f) || !(j.graph == i) || j.ext) = false from hc] at e; cases e
        refine fR rfl ?_
        refine Mid.callRd [4, 2, 3] (read_ok (F := F) H h.hN j (h.hN.jsO j (List.mem_of_getElem? hk1))) rfl rfl rfl rfl nSto_bd (by repeat' (first | exact trivial | exact rfl | refine And.intro ?_ ?_ | exact (congrArg some (AObj.ren_mE _ _ _ _ _ _)).symm | exact (congrArg some (AObj.ren_cE _ _ _)).symm | (refine (congrArg some (AObj.ren_gE ?_ _ _)).symm; intro _; rfl))) rfl ?_
        refine fM rfl ?_
        refine Run.cond rfl rfl (fun hd' => ?_) (fun hd' => ?_)
        · have hd2 : readP s.graphs.length sp ks F A j > 0 := by simpa using hd'
          refine fR rfl ?_
          refine Mid.call (clone_ok H j.prov (h.hN.jsO j (List.mem_of_getElem? hk1)).2.2) rfl rfl rfl rfl ?_
          refine fM rfl ?_
          refine Mid.appGG (gT Spot.enc) C [(⟨(i : Int), readP s.graphs.length sp ks F A j, j.prov⟩ : Spot)] rfl rfl (addV_t rfl (fun _ => rfl)) (gT_cellOk _) (gT_length (fun _ => rfl)) (by first | omega | (simp; omega) | (simp; done)) (by first | omega | (simp; omega) | (simp; done)) rfl ?_
          refine fM rfl ?_
          refine aL rfl rfl rfl rfl rfl ?_
          refine fM rfl ?_
          exact rWeak 6 rfl (ihk (C ++ [⟨(i : Int), readP s.graphs.length sp ks F A j, j.prov⟩]) ⟨by simp; omega, by rw [hC]; simp only [childP]; rw [if_neg hc2, if_pos hd2]⟩) rfl rfl rfl
        · have hd2 : ¬ readP s.graphs.length sp ks F A j > 0 := by simpa using hd'
          refine fR rfl ?_
          refine aL rfl rfl rfl rfl rfl ?_
          refine fM rfl ?_
          exact rWeak 6 rfl (ihk C ⟨by omega, by rw [hC]; simp only [childP]; rw [if_neg hc2, if_neg hd2]⟩) rfl rfl rfl
end
end Go.GB.C26


/-
  N29C: contracts of chapter 29's functions: which graphs define a type.
-/
namespace Go.GB.C29
open Go.GB Go.GB.C26
set_option linter.unusedSimpArgs false
set_option linter.unusedVariables false
set_option maxRecDepth 100000
set_option maxHeartbeats 8000000
variable {P : Program}
def defJ (g : Int) (t : Str) (j : Join) : Bool := (j.graph == g) && (j.ty == t)
theorem def1_ok (H : Pr29 P) (j : Join) (g : Int) (t : Str) : FnOk P 35 [.agg [.t (.str j.ty), .t (.str j.field), .t (.int .i64 j.graph), .t (.bool j.ext), .t (.lst (j.req.map sE)), .t (.lst (j.prov.map sE))], .ptr 0 0, .ptr 1 0] ⟨[(0, .cells [.t (.int .i64 g)]), (1, .cells [.t (.str t)])], 2⟩ { v := .t (.bool (defJ g t j)), rd := true } := by
  refine FnOk.run H.i35 H.mixed rfl rfl ?_
  refine fR rfl ?_
  refine Run.fin rfl (EndOk.sameX rfl rfl rfl (by first | exact rfl | exact nSto_bd | exact tSto_bd) (.t (rfl)))
theorem indexJ_ok (H : Pr29 P) (l : List Join) (hl : l.length ≤ 100000) (g : Int) (t : Str) : FnOk P 36 [.t (.lst (l.map Join.enc)), .fn 35 [(0, 0), (1, 0)]] ⟨[(0, .cells [.t (.int .i64 g)]), (1, .cells [.t (.str t)])], 2⟩ { v := .t (.int .i64 (idxJ (defJ g t) 0 l)), rd := true } := by
  refine FnOk.run H.i36 H.mixed rfl rfl ?_
  refine fR rfl ?_
  refine lM rfl rfl rfl ?_
  refine fM rfl ?_
  refine rList l (fun i (_ : Unit) => { env := [(0, .t (.lst (l.map Join.enc))), (1, .fn 35 [(0, 0), (1, 0)]), (7, .t (.int .i64 l.length)), (8, .t (.int .i64 i))], s := ⟨[(0, .cells [.t (.int .i64 g)]), (1, .cells [.t (.str t)])], 2⟩ }) (fun r i _ => idxJ (defJ g t) 0 l = idxJ (defJ g t) i r) 2 () rfl rfl rfl rfl rfl ?_ ?_
  · intro _ hinv
    refine fR rfl ?_
    refine Run.condF rfl rfl (by simp) ?_
    refine fR rfl ?_
    refine Run.fin rfl (EndOk.sameX rfl rfl rfl (by first | exact rfl | exact nSto_bd | exact tSto_bd) (.t ((by rw [hinv]; rfl))))
  · intro i x r _ h1 hi hd hinv ih
    refine fR rfl ?_
    refine Run.condT rfl rfl (by simp; omega) ?_
    refine fR rfl ?_
    refine Mid.elemMap rfl rfl rfl h1 rfl rfl ?_
    refine fM rfl ?_
    refine Mid.callvS rfl (def1_ok H x g t) rfl rfl rfl rfl ?_
    refine fM rfl ?_
    refine Run.cond rfl rfl (fun hc => ?_) (fun hc => ?_)
    · refine fR rfl ?_
      refine Run.fin rfl (EndOk.sameX rfl rfl rfl (by first | exact rfl | exact nSto_bd | exact tSto_bd) (.t ((by rw [hinv]; simp [idxJ, hc]))))
    · refine fR rfl ?_
      refine aL rfl rfl rfl rfl rfl ?_
      refine fM rfl ?_
      exact rWeak 2 rfl (ih () (by rw [hinv]; simp [idxJ, hc])) rfl rfl rfl
theorem containsJ_ok (H : Pr29 P) (l : List Join) (hl : l.length ≤ 100000) (g : Int) (t : Str) : FnOk P 26 [.t (.lst (l.map Join.enc)), .fn 35 [(0, 0), (1, 0)]] ⟨[(0, .cells [.t (.int .i64 g)]), (1, .cells [.t (.str t)])], 2⟩ { v := .t (.bool (l.any (defJ g t))), rd := true } := by
  refine FnOk.run H.i26 H.mixed rfl rfl ?_
  refine fR rfl ?_
  refine Mid.callS (indexJ_ok H l hl g t) rfl rfl (by first | exact rfl | exact nSto_bd | exact tSto_bd) rfl ?_
  refine fM rfl ?_
  refine Run.fin rfl (EndOk.sameX rfl rfl rfl (by first | exact rfl | exact nSto_bd | exact tSto_bd) (.t ((by rw [← idxJ_ge (defJ g t) l 0 (by omega)]))))
theorem defines_ok (H : Pr29 P) (s : Super) (hj : s.joins.length ≤ 100000) (xs : List (List T)) (g : Int) (t : Str) : FnOk P 25 [.ptr 0 0, .t (.int .i64 g), .t (.str t)] ⟨[(0, .cells [.t (.lst (s.graphs.map sE)), .t s.doc, .t (.lst (s.keys.map KeyO.enc)), .t (.lst (s.joins.map Join.enc)), .own 1 6 xs]), (1, .arr xs.length)], 2⟩ { v := .t (.bool (s.joins.any (defJ g t))), rd := true } := by
  refine FnOk.run H.i25 H.mixed rfl rfl ?_
  refine fR rfl ?_
  refine Mid.callRd [2, 3] (containsJ_ok H s.joins hj g t) rfl rfl rfl rfl rfl (by repeat' (first | exact trivial | exact rfl | refine And.intro ?_ ?_ | exact (congrArg some (AObj.ren_mE _ _ _ _ _ _)).symm | exact (congrArg some (AObj.ren_cE _ _ _)).symm | (refine (congrArg some (AObj.ren_gE ?_ _ _)).symm; intro _; rfl))) rfl ?_
  refine fM rfl ?_
  refine Run.fin rfl (EndOk.sameX rfl rfl rfl rfl (.t rfl))
def badS (s : Super) (t : Str) (y : Spot) : Bool := !s.joins.any (defJ y.graph t)
theorem add1_n5 (H : Pr29 P) (s : Super) (hj : s.joins.length ≤ 100000) (xs : List (List T)) (t : Str) (y : Spot) (o4 : AObj) (hb : stoBd 5 [(0, .cells [.ptr 1 0]), (1, .cells [.t (.lst (s.graphs.map sE)), .t s.doc, .t (.lst (s.keys.map KeyO.enc)), .t (.lst (s.joins.map Join.enc)), .own 2 6 xs]), (2, .arr xs.length), (3, .cells [.t (.str t)]), (4, o4)] = true) : FnOk P 24 [.agg [.t (.int .i64 y.graph), .t (.int .i64 y.depth), .t (.lst (y.prov.map sE))], .ptr 0 0, .ptr 3 0] ⟨[(0, .cells [.ptr 1 0]), (1, .cells [.t (.lst (s.graphs.map sE)), .t s.doc, .t (.lst (s.keys.map KeyO.enc)), .t (.lst (s.joins.map Join.enc)), .own 2 6 xs]), (2, .arr xs.length), (3, .cells [.t (.str t)]), (4, o4)], 5⟩ { v := .t (.bool (badS s t y)), rd := true } := by
  refine FnOk.run H.i24 H.mixed rfl rfl ?_
  refine fR rfl ?_
  refine Mid.callRd [1, 2] (defines_ok H s hj xs y.graph t) rfl rfl rfl rfl rfl (by repeat' (first | exact trivial | exact rfl | refine And.intro ?_ ?_ | exact (congrArg some (AObj.ren_mE _ _ _ _ _ _)).symm | exact (congrArg some (AObj.ren_cE _ _ _)).symm | (refine (congrArg some (AObj.ren_gE ?_ _ _)).symm; intro _; rfl))) rfl ?_
  refine fM rfl ?_
  refine Run.fin rfl (EndOk.sameX rfl rfl rfl hb (.t rfl))
theorem add1_n6 (H : Pr29 P) (s : Super) (hj : s.joins.length ≤ 100000) (xs : List (List T)) (t : Str) (y : Spot) (o4 o5 : AObj) (hb : stoBd 6 [(0, .cells [.ptr 1 0]), (1, .cells [.t (.lst (s.graphs.map sE)), .t s.doc, .t (.lst (s.keys.map KeyO.enc)), .t (.lst (s.joins.map Join.enc)), .own 2 6 xs]), (2, .arr xs.length), (3, .cells [.t (.str t)]), (4, o4), (5, o5)] = true) : FnOk P 24 [.agg [.t (.int .i64 y.graph), .t (.int .i64 y.depth), .t (.lst (y.prov.map sE))], .ptr 0 0, .ptr 3 0] ⟨[(0, .cells [.ptr 1 0]), (1, .cells [.t (.lst (s.graphs.map sE)), .t s.doc, .t (.lst (s.keys.map KeyO.enc)), .t (.lst (s.joins.map Join.enc)), .own 2 6 xs]), (2, .arr xs.length), (3, .cells [.t (.str t)]), (4, o4), (5, o5)], 6⟩ { v := .t (.bool (badS s t y)), rd := true } := by
  refine FnOk.run H.i24 H.mixed rfl rfl ?_
  refine fR rfl ?_
  refine Mid.callRd [1, 2] (defines_ok H s hj xs y.graph t) rfl rfl rfl rfl rfl (by repeat' (first | exact trivial | exact rfl | refine And.intro ?_ ?_ | exact (congrArg some (AObj.ren_mE _ _ _ _ _ _)).symm | exact (congrArg some (AObj.ren_cE _ _ _)).symm | (refine (congrArg some (AObj.ren_gE ?_ _ _)).symm; intro _; rfl))) rfl ?_
  refine fM rfl ?_
  refine Run.fin rfl (EndOk.sameX rfl rfl rfl hb (.t rfl))
end Go.GB.C29


/-
  N29D: contracts of chapter 29's functions: spots are deleted.
-/
namespace Go.GB
section
variable {P : Program} {n m : Nat} {R : St → Prop}
variable {draw : Bool} {all : List AO} {after : List (List Nat)} {live : List Nat} {k : List It} {b : Nat} {fl : List (Bool × Bool)} {ops : List AO} {st st' : St} {d : Option Nat} {b' : Nat}
/-- the cells of a part of a growing array are cleared -/
theorem Mid.clrG {sz q ver off len : Nat} {z : List V} {x : Ar} {cs cs' : List V} (hx : x.u st = .gsl q ver off len sz) (hq : aget st.s.sto q = some (.gro ver cs)) (ho : off + len * sz ≤ cs.length) (hcs : setAt cs off (List.replicate len z).flatten = cs')
    (hst : stepS0 b st d { v := .top, ob := [(q, .gro ver cs')], rd := true } (fun b' st' => some (b', st')) = some (b', st'))
    (h' : Mid P n m R draw all after live k b' ((true, true) :: fl) ops st') : Mid P n m R draw all after live k b fl (⟨d, none, .nw (.sclr sz z x)⟩ :: ops) st := by
  subst hcs
  simp only [stepS0_eq, Option.some.injEq, Prod.mk.injEq] at hst
  obtain ⟨rfl, rfl⟩ := hst
  exact Mid.opY rfl (.clrG hx hq rfl ho) h'
end
theorem LeXs.app {m m' : Nat} {a b c d : List V} (h : LeXs m m' a b) (k : LeXs m m' c d) : LeXs m m' (a ++ c) (b ++ d) := by
  induction h with
  | nil => exact k
  | cons h _ ih => exact .cons h ih
theorem setAt_tail : ∀ (vs cs : List V) (off : Nat), off + vs.length = cs.length → setAt cs off vs = cs.take off ++ vs
  | [], cs, off, h => by simp at h; simp [setAt, h]
  | v :: r, cs, off, h => by
    simp only [setAt]
    simp only [List.length_cons] at h
    rw [setAt_tail r (cs.set off v) (off + 1) (by simp; omega)]
    apply List.ext_getElem?
    intro i
    by_cases h1 : i < off
    · rw [List.getElem?_append_left (by simp; omega), List.getElem?_append_left (by simp; omega), List.getElem?_take, List.getElem?_take, if_pos (by omega), if_pos h1, List.getElem?_set, if_neg (by omega)]
    · by_cases h2 : i = off
      · subst h2
        rw [List.getElem?_append_left (by simp; omega), List.getElem?_append_right (by simp; omega), List.getElem?_take, if_pos (by omega), List.getElem?_set, if_pos rfl, if_pos (by omega)]
        simp [Nat.min_eq_left (show i ≤ cs.length by omega)]
      · rw [List.getElem?_append_right (by simp; omega), List.getElem?_append_right (by simp; omega)]
        simp only [List.length_take, List.length_set]
        rw [Nat.min_eq_left (by omega), Nat.min_eq_left (by omega)]
        have : i - off = (i - (off + 1)) + 1 := by omega
        rw [this]; simp
theorem gE_take {α : Type} {f : α → List V} {sz : Nat} (h : ∀ x, (f x).length = sz) (l : List α) (j : Nat) : (gE f l).take (j * sz) = gE f (l.take j) := by
  by_cases hj : j ≤ l.length
  · have e : gE f l = gE f (l.take j) ++ gE f (l.drop j) := by rw [← gE_append, List.take_append_drop]
    have hl : (gE f (l.take j)).length = j * sz := by rw [gE_length h]; simp [Nat.min_eq_left hj]
    rw [e, ← hl, List.take_left]
  · rw [List.take_of_length_le (by rw [gE_length h]; exact Nat.mul_le_mul_right _ (by omega)), List.take_of_length_le (by omega)]
end Go.GB
namespace Go.GB.C29
open Go.GB Go.GB.C26
set_option linter.unusedSimpArgs false
set_option linter.unusedVariables false
set_option maxRecDepth 100000
set_option maxHeartbeats 8000000
variable {P : Program}
def fidx (p : Spot → Bool) (l : List Spot) : Int := match l.findIdx? p with | some i => i | none => -1
theorem gTb (m : Nat) (A : List Spot) : V.bds m (gE (gT Spot.enc) A) = true := V.bds_gE (fun x => by simp [gT, Spot.enc, V.bds, V.bd]) A
theorem sto5 (s : Super) (xs : List (List T)) (t : Str) (N : Nat) (A : List Spot) : stoBd 5 [(0, .cells [.ptr 1 0]), (1, .cells [.t (.lst (s.graphs.map sE)), .t s.doc, .t (.lst (s.keys.map KeyO.enc)), .t (.lst (s.joins.map Join.enc)), .own 2 6 xs]), (2, .arr xs.length), (3, .cells [.t (.str t)]), (4, .gro N (gE (gT Spot.enc) A))] = true := by
  simp [stoBd, AObj.bd, V.bds, V.bd, gTb]
theorem indexS_ok (H : Pr29 P) (s : Super) (hj : s.joins.length ≤ 100000) (xs : List (List T)) (t : Str) (l : List Spot) (hl : l.length ≤ 1000000) : FnOk P 32 [.gsl 4 l.length 0 l.length 3, .fn 24 [(0, 0), (3, 0)]] ⟨[(0, .cells [.ptr 1 0]), (1, .cells [.t (.lst (s.graphs.map sE)), .t s.doc, .t (.lst (s.keys.map KeyO.enc)), .t (.lst (s.joins.map Join.enc)), .own 2 6 xs]), (2, .arr xs.length), (3, .cells [.t (.str t)]), (4, .gro l.length (gE (gT Spot.enc) l))], 5⟩ { v := .t (.int .i64 (fidx (badS s t) l)), rd := true } := by
  have hb := sto5 s xs t l.length l
  refine FnOk.run H.i32 H.mixed rfl rfl ?_
  refine fR rfl ?_
  refine pu rfl ?_
  refine fM rfl ?_
  refine rList l (fun i (_ : Unit) => { env := [(0, .gsl 4 l.length 0 l.length 3), (1, .fn 24 [(0, 0), (3, 0)]), (7, .t (.int .i64 l.length)), (8, .t (.int .i64 i))], s := ⟨[(0, .cells [.ptr 1 0]), (1, .cells [.t (.lst (s.graphs.map sE)), .t s.doc, .t (.lst (s.keys.map KeyO.enc)), .t (.lst (s.joins.map Join.enc)), .own 2 6 xs]), (2, .arr xs.length), (3, .cells [.t (.str t)]), (4, .gro l.length (gE (gT Spot.enc) l))], 5⟩ }) (fun r i _ => l.findIdx? (badS s t) = ((l.drop i).findIdx? (badS s t)).map (· + i)) 5 () rfl (by simp) rfl rfl rfl ?_ ?_
  · intro _ hinv
    rw [List.drop_length] at hinv
    simp only [List.findIdx?_nil, Option.map_none] at hinv
    have e : fidx (badS s t) l = -1 := by simp only [fidx, hinv]
    rw [e]
    refine fR rfl ?_
    refine Run.condF rfl rfl (by simp) ?_
    refine fR rfl ?_
    refine Run.fin rfl (EndOk.sameX rfl rfl rfl hb (.t rfl))
  · intro i x r _ h1 hi hd hinv ih
    have hdr : l.drop i = x :: l.drop (i + 1) := by
      obtain ⟨h2, rfl⟩ := List.getElem?_eq_some_iff.1 h1
      exact List.drop_eq_getElem_cons h2
    rw [hdr, List.findIdx?_cons] at hinv
    refine fR rfl ?_
    refine Run.condT rfl rfl (by simp; omega) ?_
    refine fR rfl ?_
    refine pu rfl ?_
    refine Mid.ldGA (i) 0 (sz := 3) rfl rfl (by omega) (by omega) (gT_length (fun _ => rfl)) (h1) (by decide) rfl rfl ?_
    skip
    refine Mid.callvS rfl (add1_n5 H s hj xs t x _ hb) rfl rfl hb rfl ?_
    refine fM rfl ?_
    by_cases hc : badS s t x = true
    · rw [if_pos hc] at hinv
      have e : fidx (badS s t) l = i := by simp [fidx, hinv]
      rw [e]
      refine Run.condT rfl rfl hc ?_
      refine fR rfl ?_
      refine Run.fin rfl (EndOk.sameX rfl rfl rfl hb (.t rfl))
    · rw [if_neg hc] at hinv
      refine Run.condF rfl rfl (by simpa using hc) ?_
      refine fR rfl ?_
      refine aL rfl rfl rfl rfl rfl ?_
      refine fM rfl ?_
      exact rWeak 5 rfl (ih () (by rw [hinv, Option.map_map]; congr 1; funext y; simp; omega)) rfl rfl rfl
end Go.GB.C29


/-
  N29E: contracts of chapter 29's functions: slices.DeleteFunc on spots.
-/
namespace Go.GB.C29
open Go.GB Go.GB.C26
set_option linter.unusedSimpArgs false
set_option linter.unusedVariables false
set_option maxRecDepth 100000
set_option maxHeartbeats 8000000
variable {P : Program}
def good (s : Super) (t : Str) (l : List Spot) : List Spot := l.filter fun y => !badS s t y
def zS : Spot := ⟨0, 0, []⟩
theorem zeros_le {m m' : Nat} : ∀ k : Nat, LeXs m m' (List.replicate k [V.t (.int .i64 0), V.t (.int .i64 0), V.nils]).flatten (gE (gT Spot.enc) (List.replicate k zS))
  | 0 => .nil
  | k + 1 => by
    have ih := zeros_le (m := m) (m' := m') k
    simp only [List.replicate_succ, List.flatten_cons, gE, List.map_cons] at ih ⊢
    exact .cons .t (.cons .t (.cons .nilT ih))
theorem sto6 (s : Super) (xs : List (List T)) (t : Str) (N : Nat) (A : List Spot) (x : Spot) : stoBd 6 [(0, .cells [.ptr 1 0]), (1, .cells [.t (.lst (s.graphs.map sE)), .t s.doc, .t (.lst (s.keys.map KeyO.enc)), .t (.lst (s.joins.map Join.enc)), .own 2 6 xs]), (2, .arr xs.length), (3, .cells [.t (.str t)]), (4, .gro N (gE (gT Spot.enc) A)), (5, .cells [.t (.int .i64 x.graph), .t (.int .i64 x.depth), .t (.lst (x.prov.map sE))])] = true := by
  simp [stoBd, AObj.bd, V.bds, V.bd, gTb]
structure DInv (s : Super) (t : Str) (l : List Spot) (i : Nat) (A : List Spot) (j : Nat) : Prop where
  len : A.length = l.length
  tk : A.take j = good s t (l.take i)
  dr : A.drop i = l.drop i
  ji : j < i
  jl : j = (good s t (l.take i)).length
theorem DInv.skip {s : Super} {t : Str} {l A : List Spot} {i j : Nat} {x : Spot} (h : DInv s t l i A j) (hx : l[i]? = some x) (hb : badS s t x = true) : DInv s t l (i + 1) A j := by
  have e : good s t (l.take (i + 1)) = good s t (l.take i) := by
    rw [List.take_add_one, hx]; simp [good, hb]
  refine ⟨h.len, by rw [e, h.tk], ?_, by have := h.ji; omega, by rw [e]; exact h.jl⟩
  have := congrArg (List.drop 1) h.dr
  simpa [Nat.add_comm] using this
theorem DInv.keep {s : Super} {t : Str} {l A : List Spot} {i j : Nat} {x : Spot} (h : DInv s t l i A j) (hx : l[i]? = some x) (hb : badS s t x = false) : DInv s t l (i + 1) (A.set j x) (j + 1) := by
  have hil := (List.getElem?_eq_some_iff.1 hx).1
  have hji := h.ji
  have hAl := h.len
  have e : good s t (l.take (i + 1)) = good s t (l.take i) ++ [x] := by
    rw [List.take_add_one, hx]; simp [good, hb]
  refine ⟨by simp [h.len], ?_, ?_, by omega, by rw [e, List.length_append, ← h.jl]; rfl⟩
  · rw [e, ← h.tk, List.take_add_one, List.take_set_of_le (Nat.le_refl _), List.getElem?_set_self (by omega)]
    rfl
  · rw [List.drop_set_of_lt (by omega)]
    have := congrArg (List.drop 1) h.dr
    simpa [Nat.add_comm] using this
theorem delete_ok (H : Pr29 P) (s : Super) (hj : s.joins.length ≤ 100000) (xs : List (List T)) (t : Str) (l : List Spot) (hl : l.length ≤ 1000000) : FnOk P 22 [.gsl 4 l.length 0 l.length 3, .fn 24 [(0, 0), (3, 0)]] ⟨[(0, .cells [.ptr 1 0]), (1, .cells [.t (.lst (s.graphs.map sE)), .t s.doc, .t (.lst (s.keys.map KeyO.enc)), .t (.lst (s.joins.map Join.enc)), .own 2 6 xs]), (2, .arr xs.length), (3, .cells [.t (.str t)]), (4, .gro l.length (gE (gT Spot.enc) l))], 5⟩ { v := .gsl 4 l.length 0 (good s t l).length 3, ob := [(4, .gro l.length (gE (gT Spot.enc) (good s t l ++ List.replicate (l.length - (good s t l).length) zS)))], n := 0, rd := true } := by
  have hb := sto5 s xs t l.length l
  have hgl : (good s t l).length ≤ l.length := List.length_filter_le _ _
  have hi := indexS_ok H s hj xs t l hl
  unfold fidx at hi
  cases hx : l.findIdx? (badS s t) with
  | none =>
    rw [hx] at hi
    have e : good s t l = l := by
      refine List.filter_eq_self.2 fun y hy => ?_
      have := List.findIdx?_eq_none_iff.1 hx y hy
      simp [this]
    rw [e, Nat.sub_self]
    refine FnOk.run H.i22 H.mixed rfl rfl ?_
    refine fR rfl ?_
    refine Mid.callS (hi) rfl rfl hb rfl ?_
    refine fM rfl ?_
    refine Run.condT rfl rfl rfl ?_
    refine fR rfl ?_
    refine Run.fin rfl (EndOk.chg rfl rfl ?_ ?_)
    · exact .le (.same rfl)
    · refine ⟨.inl ⟨Nat.le_of_ble_eq_true rfl, _, rfl, .cells (.same rfl)⟩, .inl ⟨Nat.le_of_ble_eq_true rfl, _, rfl, .cells (.same rfl)⟩, .inl ⟨Nat.le_of_ble_eq_true rfl, _, rfl, .arr rfl⟩, .inl ⟨Nat.le_of_ble_eq_true rfl, _, rfl, .cells (.same rfl)⟩, .inl ⟨Nat.le_of_ble_eq_true rfl, _, rfl, .gro (.gE (by simp) fun _ => rfl)⟩, trivial⟩
  | some k =>
    rw [hx] at hi
    obtain ⟨hk, hk2, hk3⟩ := List.findIdx?_eq_some_iff_getElem.1 hx
    have hx0 : l[k]? = some l[k] := List.getElem?_eq_getElem hk
    have g0 : good s t (l.take k) = l.take k := by
      refine List.filter_eq_self.2 fun y hy => ?_
      obtain ⟨j, hj1, hj2⟩ := List.getElem_of_mem hy
      rw [List.length_take] at hj1
      have := hk3 j (by omega)
      rw [List.getElem_take] at hj2
      rw [hj2] at this
      simpa using this
    have hD0 : DInv s t l (k + 1) l k := by
      have e : good s t (l.take (k + 1)) = l.take k := by
        rw [List.take_add_one, hx0]; simp only [good, List.filter_append] at g0 ⊢; rw [g0]; simp [hk2]
      exact ⟨rfl, e.symm, rfl, by omega, by rw [e]; simp; omega⟩
    refine FnOk.run H.i22 H.mixed rfl rfl ?_
    refine fR rfl ?_
    refine Mid.callS (hi) rfl rfl hb rfl ?_
    refine fM rfl ?_
    refine Run.condF rfl rfl (by simp) ?_
    refine fR rfl ?_
    refine aL rfl rfl rfl rfl rfl ?_
    refine fM rfl ?_
    refine rList (l.drop (k + 1)) (fun i (B : List Spot × Nat) => { env := [(0, .gsl 4 l.length 0 l.length 3), (1, .fn 24 [(0, 0), (3, 0)]), (5, .t (.int .i64 B.2)), (6, .t (.int .i64 (k + 1 + i : Nat)))], s := ⟨[(0, .cells [.ptr 1 0]), (1, .cells [.t (.lst (s.graphs.map sE)), .t s.doc, .t (.lst (s.keys.map KeyO.enc)), .t (.lst (s.joins.map Join.enc)), .own 2 6 xs]), (2, .arr xs.length), (3, .cells [.t (.str t)]), (4, .gro l.length (gE (gT Spot.enc) B.1))], 5⟩ }) (fun r i B => DInv s t l (k + 1 + i) B.1 B.2) 5 (l, k) rfl hD0 rfl rfl rfl ?_ ?_
    · rintro ⟨A, j⟩ hinv
      dsimp only at hinv
      dsimp only
      have hlen : k + 1 + (l.drop (k + 1)).length = l.length := by simp; omega
      have hdl : (l.drop (k + 1)).length = l.length - (k + 1) := by simp
      rw [hlen] at hinv
      have hji := hinv.ji
      have hAl := hinv.len
      have htk := hinv.tk
      have hjl := hinv.jl
      rw [List.take_length] at htk hjl
      have hz : ∀ x : Spot, (gT Spot.enc x).length = 3 := gT_length (fun _ => rfl)
      refine fR rfl ?_
      refine pu rfl ?_
      refine fM rfl ?_
      refine Run.condF rfl rfl (by simp; omega) ?_
      refine fR rfl ?_
      refine pu rfl ?_
      refine Mid.clrG (cs' := gE (gT Spot.enc) (A.take j) ++ (List.replicate (l.length - j) [V.t (.int .i64 0), V.t (.int .i64 0), V.nils]).flatten) rfl rfl ?_ ?_ rfl ?_
      · rw [gE_length hz]; simp; omega
      · simp only [Int.toNat_natCast, Nat.zero_add]
        rw [setAt_tail _ _ _ (by rw [gE_length hz]; simp; omega), gE_take hz]
      refine fM rfl ?_
      refine pu rfl ?_
      refine fM rfl ?_
      refine Run.fin rfl (EndOk.chg rfl rfl ?_ ?_)
      · exact .le (.gslEq rfl (by simp) (by simp [hjl]) (Nat.le_of_ble_eq_true rfl))
      · refine ⟨.inl ⟨Nat.le_of_ble_eq_true rfl, _, rfl, .cells (.same rfl)⟩, .inl ⟨Nat.le_of_ble_eq_true rfl, _, rfl, .cells (.same rfl)⟩, .inl ⟨Nat.le_of_ble_eq_true rfl, _, rfl, .arr rfl⟩, .inl ⟨Nat.le_of_ble_eq_true rfl, _, rfl, .cells (.same rfl)⟩, .inl ⟨Nat.le_of_ble_eq_true rfl, _, rfl, .gro (by rw [gE_append, htk, ← hjl]; exact .app (.gE rfl fun _ => rfl) (zeros_le _))⟩, trivial⟩
    · rintro i x r ⟨A, j⟩ h1 hi' hd hinv ih
      dsimp only at hinv
      dsimp only
      rw [List.getElem?_drop] at h1
      have hlt := (List.getElem?_eq_some_iff.1 h1).1
      have hji := hinv.ji
      have hAl := hinv.len
      have hA1 : A[k + 1 + i]? = some x := by
        have := congrArg (fun z => z[0]?) hinv.dr
        simpa [h1] using this
      have hAj : A[j]? = some A[j] := List.getElem?_eq_getElem (by omega)
      refine fR rfl ?_
      refine pu rfl ?_
      refine fM rfl ?_
      refine Run.condT rfl rfl (by simp; omega) ?_
      refine fR rfl ?_
      refine pu rfl ?_
      refine Mid.ldGA ((k + 1 + i)) 0 (sz := 3) rfl rfl (by omega) (by omega) (gT_length (fun _ => rfl)) (hA1) (by decide) rfl rfl ?_
      refine fM rfl ?_
      refine Mid.callvS rfl (add1_n6 H s hj xs t x _ _ (sto6 s xs t l.length A x)) rfl rfl (sto6 s xs t l.length A x) rfl ?_
      refine fM rfl ?_
      cases hbx : badS s t x with
      | true =>
        refine Run.condF rfl rfl rfl ?_
        refine fR rfl ?_
        refine aL rfl rfl rfl rfl rfl ?_
        refine fM rfl ?_
        exact rWeak 5 rfl (ih (A, j) (hinv.skip h1 hbx)) rfl rfl rfl
      | false =>
        refine Run.condT rfl rfl rfl ?_
        refine fR rfl ?_
        refine pu rfl ?_
        refine Mid.stG (x) (j) 0 (sz := 3) rfl rfl rfl rfl rfl (by omega) (gT_length (fun _ => rfl)) (hAj) (by decide) rfl rfl ?_
        refine fM rfl ?_
        refine aL rfl rfl rfl rfl rfl ?_
        refine fM rfl ?_
        refine aL rfl rfl rfl rfl rfl ?_
        refine fM rfl ?_
        exact rWeak 5 rfl (ih (A.set j x, j + 1) (hinv.keep h1 hbx)) rfl rfl rfl
end Go.GB.C29


/-
  N29F: contracts of chapter 29's functions: the walk along an operation.
-/
namespace Go.GB.C29
open Go.GB Go.GB.C26
set_option linter.unusedSimpArgs false
set_option linter.unusedVariables false
set_option maxRecDepth 100000
set_option maxHeartbeats 16000000
variable {P : Program}
structure Place where
  parent : Int
  hop : Hop
  ty : Str
  spots : List Spot
  picks : List Pick
def Place.enc (p : Place) : List T := [.int .i64 p.parent, .str p.hop.on, .str p.hop.key, .str p.ty, .lst (p.spots.map Spot.enc), .lst (p.picks.map Pick.enc)]
def Place.v (p : Place) : V := .agg [.t (.int .i64 p.parent), .t (.str p.hop.on), .t (.str p.hop.key), .t (.str p.ty), .t (.lst (p.spots.map Spot.enc)), .t (.lst (p.picks.map Pick.enc))]
/-- what a schema's walks need: lists of spots that may come up, and the spots of children -/
structure Env (s : Super) (ds : List Def) (G : List Spot → Prop) (Ch : Str → List Spot → Str → List Spot) : Prop where
  doc : s.doc = .lst (ds.map Def.enc)
  docOk : DocOk ds
  js : s.joins.length ≤ 100000
  ok : ∀ ty here f, G here → ∃ sp js ks F A, Sol s ty here sp js ks F A ∧ js.length ≤ 1000 ∧ childG s.graphs.length sp js ks F A f 0 s.graphs.length [] = Ch ty here f
  cl : ∀ ty here f t, G here → G (good s t (Ch ty here f))
  len : ∀ ty here f, G here → (Ch ty here f).length ≤ 1000000
section
variable {s : Super} {ds : List Def} {G : List Spot → Prop} {Ch : Str → List Spot → Str → List Spot}
variable (s) (ds) (Ch) in
def addF : Nat → Place → List Place → List Place
  | 0, _, out => out
  | k + 1, p, out => p.picks.foldl (fun o x => (C11.posF ds x.ty.name).foldl (fun o t => if (onF x.picks t).isEmpty then o else addF k ⟨out.length, ⟨p.ty, x.key⟩, t, good s t (Ch p.ty p.spots x.name), onF x.picks t⟩ o) o) (out ++ [p])
theorem foldl_grow {α β : Type} {f : List β → α → List β} (h : ∀ o x, o.length ≤ (f o x).length) : ∀ (l : List α) (o : List β), o.length ≤ (l.foldl f o).length
  | [], o => Nat.le_refl _
  | x :: r, o => Nat.le_trans (h o x) (foldl_grow h r _)
theorem addF_grow : ∀ (k : Nat) (p : Place) (o : List Place), o.length ≤ (addF s ds Ch k p o).length
  | 0, p, o => Nat.le_refl _
  | k + 1, p, o => by
    simp only [addF]
    refine Nat.le_trans (by simp) (foldl_grow (fun o x => foldl_grow (fun o t => ?_) _ _) _ (o ++ [p]))
    split
    · exact Nat.le_refl _
    · exact addF_grow k _ _
/-- what one type of one pick adds -/
abbrev stepT (s : Super) (ds : List Def) (Ch : Str → List Spot → Str → List Spot) (k : Nat) (p : Place) (n : Nat) (x : Pick) (o : List Place) (t : Str) : List Place :=
  if (onF x.picks t).isEmpty then o else addF s ds Ch k ⟨n, ⟨p.ty, x.key⟩, t, good s t (Ch p.ty p.spots x.name), onF x.picks t⟩ o
abbrev stepX (s : Super) (ds : List Def) (Ch : Str → List Spot → Str → List Spot) (k : Nat) (p : Place) (n : Nat) (o : List Place) (x : Pick) : List Place := (C11.posF ds x.ty.name).foldl (stepT s ds Ch k p n x) o
theorem stepT_grow (k : Nat) (p : Place) (n : Nat) (x : Pick) (o : List Place) (t : Str) : o.length ≤ (stepT s ds Ch k p n x o t).length := by
  unfold stepT
  split
  · exact Nat.le_refl _
  · exact addF_grow k _ _
theorem stepX_grow (k : Nat) (p : Place) (n : Nat) (o : List Place) (x : Pick) : o.length ≤ (stepX s ds Ch k p n o x).length := foldl_grow (fun o t => stepT_grow k p n x o t) _ _
theorem addF_succ (k : Nat) (p : Place) (o : List Place) : addF s ds Ch (k + 1) p o = p.picks.foldl (stepX s ds Ch k p o.length) (o ++ [p]) := rfl
structure PlOk (G : List Spot → Prop) (p : Place) : Prop where
  pk : ∀ x, x ∈ p.picks → x.Ok
  pl : p.picks.length * 160 ≤ 140737488355328
  g : G p.spots
theorem onF_mem {l : List Pick} {t : Str} {x : Pick} (h : x ∈ onF l t) : x ∈ l := (List.mem_filter.1 h).1
theorem onF_len (l : List Pick) (t : Str) : (onF l t).length ≤ l.length := List.length_filter_le _ _
theorem cnts_filter (f : Pick → Bool) : ∀ l : List Pick, Pick.cnts (l.filter f) ≤ Pick.cnts l
  | [] => Nat.le_refl _
  | x :: r => by
    have ih := cnts_filter f r
    simp only [List.filter_cons]
    split
    · simp only [Pick.cnts]; omega
    · simp only [Pick.cnts]; omega
theorem cnts_mem : ∀ {l : List Pick} {x : Pick}, x ∈ l → x.cnt ≤ Pick.cnts l
  | y :: r, x, h => by
    simp only [Pick.cnts]
    rcases List.mem_cons.1 h with rfl | h
    · omega
    · have := cnts_mem h; omega
theorem posL_len (t : Def) (nm : Str) : ∀ (r pre : List Def), (C11.posL t nm pre r).length ≤ r.length
  | [], _ => by simp [C11.posL]
  | o :: r, pre => by
    have ih := posL_len t nm r (pre ++ [o])
    simp only [C11.posL]
    split
    · simp; omega
    · simp; omega
theorem posF_len (ds : List Def) (nm : Str) : (C11.posF ds nm).length ≤ ds.length := by
  unfold C11.posF
  split
  · simp
  · exact posL_len _ _ _ _
def AddC (P : Program) (s : Super) (ds : List Def) (G : List Spot → Prop) (Ch : Str → List Spot → Str → List Spot) (k : Nat) : Prop :=
  ∀ (p : Place) (o : List Place), PlOk G p → Pick.cnts p.picks < k → (addF s ds Ch k p o).length ≤ 1000000 →
    FnOk P 15 [.ptr 0 0, p.v] ⟨[(0, .cells [.t (.lst (s.graphs.map sE)), .t s.doc, .t (.lst (s.keys.map KeyO.enc)), .t (.lst (s.joins.map Join.enc)), .own 1 6 (o.map Place.enc)]), (1, .arr o.length)], 2⟩ { v := .tup [], ob := [(0, .cells [.t (.lst (s.graphs.map sE)), .t s.doc, .t (.lst (s.keys.map KeyO.enc)), .t (.lst (s.joins.map Join.enc)), .own 1 6 ((addF s ds Ch k p o).map Place.enc)]), (1, .arr (addF s ds Ch k p o).length)], n := 0, rd := true }
theorem add_step (H : Pr29 P) (E : Env s ds G Ch) (k : Nat) (hrec : AddC P s ds G Ch k) : AddC P s ds G Ch (k + 1) := by
  intro p o hp hc hl
  have hpl := hp.pl
  rw [addF_succ] at hl ⊢
  have hl0 := foldl_grow (f := stepX s ds Ch k p o.length) (fun o' x => stepX_grow k p o.length o' x) p.picks (o ++ [p])
  generalize hfin : p.picks.foldl (stepX s ds Ch k p o.length) (o ++ [p]) = fin at hl hl0 ⊢
  have hol : o.length ≤ 1000000 := by simp at hl0; omega
  refine FnOk.run H.i15 H.mixed rfl rfl ?_
  refine fR rfl ?_
  refine lM rfl rfl rfl ?_
  refine fM rfl ?_
  refine apM Place.enc o [p] rfl rfl rfl rfl rfl ?_ (h1 := by first | omega | (simp; omega) | (simp; done)) (h2 := by first | omega | (simp; omega) | (simp; done))
  refine fM rfl ?_
  refine lM rfl rfl rfl ?_
  refine fM rfl ?_
  refine rList p.picks (fun i (B : List Place) => { env := [(2, .ptr 2 0), (3, .ptr 3 0), (4, .t (.int .i64 o.length)), (27, .t (.lst (p.picks.map Pick.enc))), (28, .t (.int .i64 p.picks.length)), (29, .t (.int .i64 i))], s := ⟨[(0, .cells [.t (.lst (s.graphs.map sE)), .t s.doc, .t (.lst (s.keys.map KeyO.enc)), .t (.lst (s.joins.map Join.enc)), .own 1 6 (B.map Place.enc)]), (1, .arr B.length), (2, .cells [.ptr 0 0]), (3, .cells [.t (.int .i64 p.parent), .t (.str p.hop.on), .t (.str p.hop.key), .t (.str p.ty), .t (.lst (p.spots.map Spot.enc)), .t (.lst (p.picks.map Pick.enc))])], 4⟩ }) (fun r i B => r.foldl (stepX s ds Ch k p o.length) B = fin) 4 (o ++ [p]) rfl hfin rfl rfl rfl ?_ ?_
  · intro B hB
    simp only [List.foldl_nil] at hB
    subst hB
    refine fR rfl ?_
    refine Run.condF rfl rfl (by simp) ?_
    skip
    refine Run.fin rfl (EndOk.chg rfl rfl ?_ ?_)
    · exact .tup .nil
    · exact ⟨.inl ⟨Nat.le_of_ble_eq_true rfl, _, rfl, .cells (.same rfl)⟩, .inl ⟨Nat.le_of_ble_eq_true rfl, _, rfl, .arr rfl⟩, trivial⟩
  · intro i x r B h1 hi hd hB ih
    have hxk := hp.pk x (List.mem_of_getElem? h1)
    have hcx : Pick.cnts x.picks < k := by
      have := cnts_mem (List.mem_of_getElem? h1)
      rw [Pick.cnt_eq] at this
      omega
    have hposs : FnOk P 20 [.agg [.t s.doc], .t (.str x.ty.name)] ⟨[], 0⟩ { v := .t (.lst ((C11.posF ds x.ty.name).map Go.GB.sE)) } := by
      rw [E.doc]; exact C11.possible_ok H.p11 ds E.docOk x.ty.name
    simp only [List.foldl_cons] at hB
    have hgr := foldl_grow (f := stepX s ds Ch k p o.length) (fun o' x => stepX_grow k p o.length o' x) r (stepX s ds Ch k p o.length B x)
    rw [hB] at hgr
    generalize hX : stepX s ds Ch k p o.length B x = X at hB hgr
    unfold stepX at hX
    have hts := posF_len ds x.ty.name
    have hdl0 := E.docOk.l
    generalize C11.posF ds x.ty.name = ts at hposs hX hts
    refine fR rfl ?_
    refine Run.condT rfl rfl (by simp; omega) ?_
    refine fR rfl ?_
    refine Mid.elemMapC (Pick.enc_eq x) rfl rfl rfl h1 rfl rfl ?_
    refine fM rfl ?_
    refine Mid.call (hposs) rfl rfl rfl rfl ?_
    refine lM rfl rfl rfl ?_
    refine fM rfl ?_
    refine rList ts (fun j (C : List Place) => { env := [(2, .ptr 2 0), (3, .ptr 3 0), (4, .t (.int .i64 o.length)), (6, .ptr 4 0), (27, .t (.lst (p.picks.map Pick.enc))), (28, .t (.int .i64 p.picks.length)), (29, .t (.int .i64 i)), (41, .t (.lst (ts.map Go.GB.sE))), (42, .t (.int .i64 ts.length)), (43, .t (.int .i64 j))], s := ⟨[(0, .cells [.t (.lst (s.graphs.map sE)), .t s.doc, .t (.lst (s.keys.map KeyO.enc)), .t (.lst (s.joins.map Join.enc)), .own 1 6 (C.map Place.enc)]), (1, .arr C.length), (2, .cells [.ptr 0 0]), (3, .cells [.t (.int .i64 p.parent), .t (.str p.hop.on), .t (.str p.hop.key), .t (.str p.ty), .t (.lst (p.spots.map Spot.enc)), .t (.lst (p.picks.map Pick.enc))]), (4, .cells [.t (.str x.key), .t (.str x.on), .t (.str x.name), .t (.lst (x.args.map Arg.enc)), .t (.str x.ty.name), .t (.lst (x.ty.wraps.map nE)), .t (.str x.label), .t (.int .i64 x.initial), .t (.lst (x.picks.map Pick.enc))])], 5⟩ }) (fun r j C => r.foldl (stepT s ds Ch k p o.length x) C = X) 5 B rfl hX rfl rfl rfl ?_ ?_
    · intro C hC
      simp only [List.foldl_nil] at hC
      subst hC
      refine fR rfl ?_
      refine Run.condF rfl rfl (by simp) ?_
      refine fR rfl ?_
      refine aL rfl rfl rfl rfl rfl ?_
      refine fM rfl ?_
      exact rWeak 4 rfl (ih C hB) rfl rfl rfl
    · intro j t r2 C k1 hj kd hC ih2
      simp only [List.foldl_cons] at hC
      have hgr2 := foldl_grow (f := stepT s ds Ch k p o.length x) (fun o' t => stepT_grow k p o.length x o' t) r2 (stepT s ds Ch k p o.length x C t)
      rw [hC] at hgr2
      have hof := of_ok H x.picks hxk.pl hxk.p t
      refine fR rfl ?_
      refine Run.condT rfl rfl (by simp; omega) ?_
      refine fR rfl ?_
      refine Mid.elemMap rfl rfl rfl k1 rfl rfl ?_
      refine fM rfl ?_
      refine Mid.call (hof) rfl rfl rfl rfl ?_
      refine fM rfl ?_
      refine lM rfl rfl rfl ?_
      refine fM rfl ?_
      by_cases hemp : (onF x.picks t).isEmpty = true
      · rw [show stepT s ds Ch k p o.length x C t = C from if_pos hemp] at hC
        refine Run.condT rfl rfl (by simpa [List.isEmpty_iff] using hemp) ?_
        refine fR rfl ?_
        refine aL rfl rfl rfl rfl rfl ?_
        refine fM rfl ?_
        exact rWeak 5 rfl (ih2 C hC) rfl rfl rfl
      · rw [show stepT s ds Ch k p o.length x C t = addF s ds Ch k ⟨o.length, ⟨p.ty, x.key⟩, t, good s t (Ch p.ty p.spots x.name), onF x.picks t⟩ C from if_neg hemp] at hC hgr2
        refine Run.condF rfl rfl (by simpa [List.isEmpty_iff] using hemp) ?_
        refine fR rfl ?_
        obtain ⟨sp, js, ks, F, A, hS, hjl, hCh⟩ := E.ok p.ty p.spots x.name hp.g
        have hc1 := childO_ok H.p26 hS hjl x.name
        rw [hCh] at hc1
        have hcl := E.len p.ty p.spots x.name hp.g
        have hG := E.cl p.ty p.spots x.name t hp.g
        have hgrC := addF_grow (s := s) (ds := ds) (Ch := Ch) k ⟨o.length, ⟨p.ty, x.key⟩, t, good s t (Ch p.ty p.spots x.name), onF x.picks t⟩ C
        have hadd := hrec ⟨o.length, ⟨p.ty, x.key⟩, t, good s t (Ch p.ty p.spots x.name), onF x.picks t⟩ C ⟨fun y hy => hxk.p y (onF_mem hy), by have := onF_len x.picks t; have := hxk.pl; dsimp only; omega, hG⟩ (by dsimp only; have := cnts_filter (fun p => p.on == t) x.picks; unfold onF; omega) (by omega)
        generalize addF s ds Ch k ⟨o.length, ⟨p.ty, x.key⟩, t, good s t (Ch p.ty p.spots x.name), onF x.picks t⟩ C = C2 at hadd hC hgr2 hgrC
        unfold Place.v at hadd
        dsimp only at hadd
        generalize Ch p.ty p.spots x.name = c at hc1 hcl hadd
        have hdl := delete_ok H s E.js (C.map Place.enc) t c hcl
        rw [List.length_map] at hdl
        have hb5 := sto5 s (C.map Place.enc) t c.length c
        rw [List.length_map] at hb5
        refine Mid.callR [] (hc1) rfl rfl rfl rfl rfl (by repeat' (first | exact trivial | exact rfl | refine And.intro ?_ ?_ | exact (congrArg some (AObj.ren_mE _ _ _ _ _ _)).symm | exact (congrArg some (AObj.ren_cE _ _ _)).symm | (refine (congrArg some (AObj.ren_gE ?_ _ _)).symm; intro _; rfl))) rfl rfl (ob' := [(11, .gro c.length (gE (gT Spot.enc) c))]) ((by simp only [renOb, AObj.ren_gE (f := gT Spot.enc) (f' := gT Spot.enc) (fun _ => rfl)]; rfl)) rfl rfl ?_
        refine fM rfl ?_
        refine Mid.callR [2, 0, 1, 5, 11] (hdl) rfl rfl rfl rfl hb5 (by repeat' (first | exact trivial | exact rfl | refine And.intro ?_ ?_ | exact (congrArg some (AObj.ren_mE _ _ _ _ _ _)).symm | exact (congrArg some (AObj.ren_cE _ _ _)).symm | (refine (congrArg some (AObj.ren_gE ?_ _ _)).symm; intro _; rfl))) rfl rfl (ob' := [(11, .gro c.length (gE (gT Spot.enc) (good s t c ++ List.replicate (c.length - (good s t c).length) zS)))]) ((by simp only [renOb, AObj.ren_gE (f := gT Spot.enc) (f' := gT Spot.enc) (fun _ => rfl)]; rfl)) rfl rfl ?_
        refine Mid.fast (f := 2) rfl (by (repeat' (first | exact trivial | exact Bool.not_or_self _ | exact grd1 _ | exact grd2 _ | exact grd3 _ _ | exact grd4 _ _ | refine And.intro ?_ ?_ | exact rfl | (simp; done) | (simp <;> omega))); done) ?_
        refine Run.weakZ 6 rfl (st' := { env := [(2, .ptr 2 0), (3, .ptr 3 0), (4, .t (.int .i64 o.length)), (6, .ptr 4 0), (8, .ptr 5 0), (9, .t (.lst ((onF x.picks t).map Pick.enc))), (10, .t (.lst ((good s t c).map Spot.enc))), (27, .t (.lst (p.picks.map Pick.enc))), (28, .t (.int .i64 p.picks.length)), (29, .t (.int .i64 i)), (41, .t (.lst (ts.map Go.GB.sE))), (42, .t (.int .i64 ts.length)), (43, .t (.int .i64 j))], s := ⟨[(0, .cells [.t (.lst (s.graphs.map sE)), .t s.doc, .t (.lst (s.keys.map KeyO.enc)), .t (.lst (s.joins.map Join.enc)), .own 1 6 (C.map Place.enc)]), (1, .arr C.length), (2, .cells [.ptr 0 0]), (3, .cells [.t (.int .i64 p.parent), .t (.str p.hop.on), .t (.str p.hop.key), .t (.str p.ty), .t (.lst (p.spots.map Spot.enc)), .t (.lst (p.picks.map Pick.enc))]), (4, .cells [.t (.str x.key), .t (.str x.on), .t (.str x.name), .t (.lst (x.args.map Arg.enc)), .t (.str x.ty.name), .t (.lst (x.ty.wraps.map nE)), .t (.str x.label), .t (.int .i64 x.initial), .t (.lst (x.picks.map Pick.enc))]), (5, .cells [.t (.str t)])], 6⟩ }) ?_ rfl rfl rfl (by repeat' (first | exact trivial | exact LeZ.le (Nat.le_of_ble_eq_true rfl) (by first | exact LeX.t | exact LeX.top | exact LeX.same rfl | exact LeX.ownT | exact LeX.nilT | exact LeX.fowT | exact LeX.tEq (by simp)) | exact LeZ.gE _ _ (Nat.le_of_ble_eq_true rfl) rfl (by first | exact List.take_length.symm | exact (List.take_of_length_le (by simp)).symm | simp) (by simp) (fun _ => rfl) | exact Or.inr ⟨Nat.le_of_ble_eq_true rfl, Nat.le_of_ble_eq_true rfl, rfl⟩ | refine Or.inl ⟨Nat.le_of_ble_eq_true rfl, _, rfl, ?_⟩ | refine LeOZ.cells ?_ | exact LeOZ.le (LeO.arr (by first | rfl | simp)) | exact LeOZ.le (LeO.cE (by first | rfl | simp)) | exact LeOZ.le (LeO.mE (by first | rfl | simp) (by first | exact Or.inl rfl | exact Or.inr rfl)) | refine LeZs.cons ?_ ?_ | exact LeZs.nil | refine And.intro ?_ ?_)) (by repeat' (first | exact trivial | exact LeZ.le (Nat.le_of_ble_eq_true rfl) (by first | exact LeX.t | exact LeX.top | exact LeX.same rfl | exact LeX.ownT | exact LeX.nilT | exact LeX.fowT | exact LeX.tEq (by simp)) | exact LeZ.gE _ _ (Nat.le_of_ble_eq_true rfl) rfl (by first | exact List.take_length.symm | exact (List.take_of_length_le (by simp)).symm | simp) (by simp) (fun _ => rfl) | exact Or.inr ⟨Nat.le_of_ble_eq_true rfl, Nat.le_of_ble_eq_true rfl, rfl⟩ | refine Or.inl ⟨Nat.le_of_ble_eq_true rfl, _, rfl, ?_⟩ | refine LeOZ.cells ?_ | exact LeOZ.le (LeO.arr (by first | rfl | simp)) | exact LeOZ.le (LeO.cE (by first | rfl | simp)) | exact LeOZ.le (LeO.mE (by first | rfl | simp) (by first | exact Or.inl rfl | exact Or.inr rfl)) | refine LeZs.cons ?_ ?_ | exact LeZs.nil | refine And.intro ?_ ?_))
        refine fR rfl ?_
        refine Mid.callR [0, 1] (hadd) rfl rfl rfl rfl rfl (by repeat' (first | exact trivial | exact rfl | refine And.intro ?_ ?_ | exact (congrArg some (AObj.ren_mE _ _ _ _ _ _)).symm | exact (congrArg some (AObj.ren_cE _ _ _)).symm | (refine (congrArg some (AObj.ren_gE ?_ _ _)).symm; intro _; rfl))) rfl rfl (ob' := [(0, .cells [.t (.lst (s.graphs.map sE)), .t s.doc, .t (.lst (s.keys.map KeyO.enc)), .t (.lst (s.joins.map Join.enc)), .own 1 6 (C2.map Place.enc)]), (1, .arr C2.length)]) (rfl) rfl rfl ?_
        refine fM rfl ?_
        refine aL rfl rfl rfl rfl rfl ?_
        refine fM rfl ?_
        exact rWeak 5 rfl (ih2 C2 hC) rfl rfl rfl
end
end Go.GB.C29


/-
  N29G: contracts of chapter 29's functions: places.
-/
namespace Go.GB.C29
open Go.GB Go.GB.C26
set_option linter.unusedSimpArgs false
set_option linter.unusedVariables false
set_option maxRecDepth 100000
set_option maxHeartbeats 16000000
variable {P : Program}
section
variable {s : Super} {ds : List Def} {G : List Spot → Prop} {Ch : Str → List Spot → Str → List Spot}
theorem add_ok (H : Pr29 P) (E : Env s ds G Ch) : ∀ k, AddC P s ds G Ch k
  | 0 => fun p o _ h => absurd h (Nat.not_lt_zero _)
  | k + 1 => add_step H E k (add_ok H E k)
def rootPl (s : Super) (kind : Int) (picks : List Pick) : Place := ⟨-1, ⟨[], []⟩, rootF kind, rootsP (rootF kind) s.joins 0 s.graphs.length [], picks⟩
variable (s) (ds) (Ch) in
def placesF (kind : Int) (picks : List Pick) : List Place := addF s ds Ch (Pick.cnts picks + 1) (rootPl s kind picks) []
theorem places_ok (H : Pr29 P) (E : Env s ds G Ch) (kind : Int) (picks : List Pick) (hp : picks.length * 160 ≤ 140737488355328) (ho : ∀ x, x ∈ picks → x.Ok) (hg : G (rootPl s kind picks).spots) (hs1 : s.graphs.length ≤ 2000) (hl : (placesF s ds Ch kind picks).length ≤ 1000000) : FnOk P 10 [s.v, .agg [.t (.int .i64 kind), .t (.lst (picks.map Pick.enc))]] ⟨[], 0⟩ { v := .t (.lst ((placesF s ds Ch kind picks).map Place.enc)) } := by
  have hadd := add_ok H E (Pick.cnts picks + 1) (rootPl s kind picks) [] ⟨ho, hp, hg⟩ (Nat.lt_succ_self _) hl
  have hroots := roots_ok H.p26 s (rootF kind) hs1 E.js
  unfold placesF at hl ⊢
  unfold Place.v rootPl at hadd
  dsimp only at hadd
  unfold rootPl
  generalize addF s ds Ch (Pick.cnts picks + 1) ⟨-1, ⟨[], []⟩, rootF kind, rootsP (rootF kind) s.joins 0 s.graphs.length [], picks⟩ [] = res at hadd ⊢
  generalize rootsP (rootF kind) s.joins 0 s.graphs.length [] = rt at hadd hroots
  refine FnOk.run H.i10 H.mixed rfl rfl ?_
  refine fR rfl ?_
  refine Mid.call (root_ok H kind) rfl rfl rfl rfl ?_
  refine fM rfl ?_
  refine lM rfl rfl rfl ?_
  refine fM rfl ?_
  generalize rootF kind = rf at hadd hroots
  refine rList picks (fun i (B : List Pick) => { env := [(2, .ptr 0 0), (5, .ptr 2 0), (6, .t (.str rf)), (7, .own 4 9 (B.map Pick.enc)), (17, .t (.lst (picks.map Pick.enc))), (18, .t (.int .i64 picks.length)), (19, .t (.int .i64 i))], s := ⟨[(0, .cells [.t (.lst (s.graphs.map sE)), .t s.doc, .t (.lst (s.keys.map KeyO.enc)), .t (.lst (s.joins.map Join.enc))]), (2, .cells [.t (.lst (s.graphs.map sE)), .t s.doc, .t (.lst (s.keys.map KeyO.enc)), .t (.lst (s.joins.map Join.enc)), .own 3 6 (([] : List Place).map Place.enc)]), (3, .arr ([] : List Place).length), (4, .arr B.length)], 5⟩ }) (fun r i B => B = picks.take i) 3 [] rfl rfl rfl rfl rfl ?_ ?_
  · intro B hB
    rw [List.take_length] at hB
    subst hB
    refine fR rfl ?_
    refine Run.condF rfl rfl (by simp) ?_
    refine rWeakC 4 rfl (st' := { env := [(2, .ptr 0 0), (5, .ptr 2 0), (6, .t (.str rf)), (7, .t (.lst (B.map Pick.enc)))], s := ⟨[(0, .cells [.t (.lst (s.graphs.map sE)), .t s.doc, .t (.lst (s.keys.map KeyO.enc)), .t (.lst (s.joins.map Join.enc))]), (2, .cells [.t (.lst (s.graphs.map sE)), .t s.doc, .t (.lst (s.keys.map KeyO.enc)), .t (.lst (s.joins.map Join.enc)), .own 3 6 (([] : List Place).map Place.enc)]), (3, .arr ([] : List Place).length)], 4⟩ }) ?_ rfl rfl rfl
    refine fR rfl ?_
    refine Mid.call (hroots) rfl rfl rfl rfl ?_
    refine fM rfl ?_
    refine Mid.callR [2, 3] (hadd) rfl rfl rfl rfl rfl (by repeat' (first | exact trivial | exact rfl | refine And.intro ?_ ?_ | exact (congrArg some (AObj.ren_mE _ _ _ _ _ _)).symm | exact (congrArg some (AObj.ren_cE _ _ _)).symm | (refine (congrArg some (AObj.ren_gE ?_ _ _)).symm; intro _; rfl))) rfl rfl (ob' := [(2, .cells [.t (.lst (s.graphs.map sE)), .t s.doc, .t (.lst (s.keys.map KeyO.enc)), .t (.lst (s.joins.map Join.enc)), .own 3 6 (res.map Place.enc)]), (3, .arr res.length)]) (rfl) rfl rfl ?_
    refine fM rfl ?_
    refine Run.fin rfl (EndOk.go ?_); exact .own rfl
  · intro i x r B h1 hi hd hB ih
    have hc := cop_ok H x (ho x (List.mem_of_getElem? h1))
    have hBl : B.length = i := by rw [hB]; simp; omega
    refine fR rfl ?_
    refine Run.condT rfl rfl (by simp; omega) ?_
    refine fR rfl ?_
    refine Mid.elemMapC (Pick.enc_eq x) rfl rfl rfl h1 rfl rfl ?_
    refine fM rfl ?_
    refine Mid.call (hc) rfl rfl rfl rfl ?_
    refine fM rfl ?_
    refine apM Pick.enc B [x] rfl (congrArg (fun c => some (T.lst [c])) (Pick.enc_eq x).symm) rfl rfl rfl ?_ (hl := fun x => (congrArg List.length (Pick.enc_eq x)).trans rfl)
    refine fM rfl ?_
    refine aL rfl rfl rfl rfl rfl ?_
    refine fM rfl ?_
    exact rWeak 5 rfl (ih (B ++ [x]) (by rw [hB, List.take_add_one, h1]; rfl)) rfl rfl rfl
/-- the depth of places -/
def depP (Lv : Str → List Spot → Str → Int) (ty : Str) (sp : List Spot) : List Pick → Int → Option Int
  | [], m => some m
  | x :: r, m => if Lv ty sp x.name > 0 then depP Lv ty sp r (if Lv ty sp x.name > m then Lv ty sp x.name else m) else none
def depL (Lv : Str → List Spot → Str → Int) : List Place → Int → Option Int
  | [], m => some m
  | p :: r, m => match depP Lv p.ty p.spots p.picks m with | some m' => depL Lv r m' | none => none
def depV (o : Option Int) : V := .tup [.t (.int .i64 (o.getD 0)), .t (.int .i64 (if o.isSome then 0 else 60))]
structure EnvL (s : Super) (G : List Spot → Prop) (Lv : Str → List Spot → Str → Int) : Prop where
  ok : ∀ ty here f, G here → ∃ sp js ks F A, Sol s ty here sp js ks F A ∧ levelP s.graphs.length F A f = Lv ty here f
theorem depth_ok (H : Pr29 P) (E : Env s ds G Ch) {Lv : Str → List Spot → Str → Int} (EL : EnvL s G Lv) (kind : Int) (picks : List Pick) (hp : picks.length * 160 ≤ 140737488355328) (ho : ∀ x, x ∈ picks → x.Ok) (hg : G (rootPl s kind picks).spots) (hs1 : s.graphs.length ≤ 2000) (hl : (placesF s ds Ch kind picks).length ≤ 1000000) (hpl : ∀ p, p ∈ placesF s ds Ch kind picks → G p.spots ∧ p.picks.length ≤ 140737488355328) : FnOk P 11 [s.v, .agg [.t (.int .i64 kind), .t (.lst (picks.map Pick.enc))]] ⟨[], 0⟩ { v := depV (depL Lv (placesF s ds Ch kind picks) 0) } := by
  have hpp := places_ok H E kind picks hp ho hg hs1 hl
  generalize placesF s ds Ch kind picks = l at hpp hl hpl ⊢
  generalize hR : depL Lv l 0 = R
  refine FnOk.run H.i11 H.mixed rfl rfl ?_
  refine fR rfl ?_
  refine Mid.call (hpp) rfl rfl rfl rfl ?_
  refine lM rfl rfl rfl ?_
  refine fM rfl ?_
  refine rList l (fun i (m : Int) => { env := [(2, .ptr 0 0), (6, .t (.int .i64 m)), (15, .t (.lst (l.map Place.enc))), (16, .t (.int .i64 l.length)), (17, .t (.int .i64 i))], s := ⟨[(0, .cells [.t (.lst (s.graphs.map sE)), .t s.doc, .t (.lst (s.keys.map KeyO.enc)), .t (.lst (s.joins.map Join.enc))])], 1⟩ }) (fun r i m => depL Lv r m = R) 1 0 rfl hR rfl rfl rfl ?_ ?_
  · intro m hm
    simp only [depL] at hm
    subst hm
    refine fR rfl ?_
    refine Run.condF rfl rfl (by simp) ?_
    refine fR rfl ?_
    refine Run.fin rfl (EndOk.go ?_); exact .tup2 (.t rfl) (.t rfl)
  · intro i p r m h1 hi hd hm ih
    obtain ⟨hpg, hpk⟩ := hpl p (List.mem_of_getElem? h1)
    simp only [depL] at hm
    refine fR rfl ?_
    refine Run.condT rfl rfl (by simp; omega) ?_
    refine fR rfl ?_
    refine Mid.elemMap rfl rfl rfl h1 rfl rfl ?_
    refine fM rfl ?_
    refine lM rfl rfl rfl ?_
    refine fM rfl ?_
    refine rList p.picks (fun j (c : Int) => { env := [(2, .ptr 0 0), (6, .t (.int .i64 c)), (8, .ptr 1 0), (15, .t (.lst (l.map Place.enc))), (16, .t (.int .i64 l.length)), (17, .t (.int .i64 i)), (22, .t (.lst (p.picks.map Pick.enc))), (23, .t (.int .i64 p.picks.length)), (24, .t (.int .i64 j))], s := ⟨[(0, .cells [.t (.lst (s.graphs.map sE)), .t s.doc, .t (.lst (s.keys.map KeyO.enc)), .t (.lst (s.joins.map Join.enc))]), (1, .cells [.t (.int .i64 p.parent), .t (.str p.hop.on), .t (.str p.hop.key), .t (.str p.ty), .t (.lst (p.spots.map Spot.enc)), .t (.lst (p.picks.map Pick.enc))])], 2⟩ }) (fun r2 j c => (match depP Lv p.ty p.spots r2 c with | some m' => depL Lv r m' | none => none) = R) 2 m rfl hm rfl rfl rfl ?_ ?_
    · intro c hc
      simp only [depP] at hc
      refine fR rfl ?_
      refine Run.condF rfl rfl (by simp) ?_
      refine fR rfl ?_
      refine aL rfl rfl rfl rfl rfl ?_
      refine fM rfl ?_
      exact rWeak 1 rfl (ih c hc) rfl rfl rfl
    · intro j x r2 c k1 hj kd hc ih2
      obtain ⟨sp, js, ks, F, A, hS, hLv⟩ := EL.ok p.ty p.spots x.name hpg
      have hget := get_ok H.p26 hS x.name
      rw [hLv] at hget
      simp only [depP] at hc
      refine fR rfl ?_
      refine Run.condT rfl rfl (by simp; omega) ?_
      refine fR rfl ?_
      refine Mid.elemMapC (Pick.enc_eq x) rfl rfl rfl k1 rfl rfl ?_
      refine fM rfl ?_
      refine Mid.call (hget) rfl rfl rfl rfl ?_
      refine fM rfl ?_
      by_cases hpos : Lv p.ty p.spots x.name > 0
      · rw [if_pos hpos] at hc
        refine Run.condF rfl rfl (by simpa using hpos) ?_
        refine fR rfl ?_
        refine aL rfl rfl rfl rfl rfl ?_
        refine fM rfl ?_
        exact rWeak 2 rfl (ih2 _ hc) rfl rfl rfl
      · rw [if_neg hpos] at hc
        subst hc
        refine Run.condT rfl rfl (by simpa using hpos) ?_
        refine fR rfl ?_
        refine Run.fin rfl (EndOk.go ?_); exact .tup2 (.t rfl) (.t rfl)
end
end Go.GB.C29


/-
  N29H: contracts of chapter 29's functions: paths.
-/
namespace Go.GB.C29
open Go.GB Go.GB.C26
set_option linter.unusedSimpArgs false
set_option linter.unusedVariables false
set_option maxRecDepth 100000
set_option maxHeartbeats 16000000
variable {P : Program}
/-- the hops up from a place -/
def upF (l : List Place) : Nat → Nat → List Hop → Option (List Hop)
  | 0, _, _ => none
  | k + 1, i, acc =>
    match l[i]? with
    | none => none
    | some p => if p.parent = -1 then some acc else if p.parent < -1 ∨ p.parent ≥ i then none else upF l k p.parent.toNat (acc ++ [p.hop])
def pathF (l : List Place) (i : Int) : List Hop := if i < 0 ∨ i ≥ l.length then [] else match upF l (i.toNat + 1) i.toNat [] with | some h => h.reverse | none => []
theorem to_ok (H : Pr29 P) (l : List Place) (hl : l.length ≤ 1000000) : FnOk P 8 [.t (.lst (l.map Place.enc))] ⟨[], 0⟩ { v := .t (.lst (l.map Place.enc)) } := by
  refine FnOk.run H.i8 H.mixed rfl rfl ?_
  refine fR rfl ?_
  refine rList l (fun i (B : List Place) => { env := [(0, .t (.lst (l.map Place.enc))), (3, .own 0 6 (B.map Place.enc)), (4, .t (.int .i64 i))], s := ⟨[(0, .arr B.length)], 1⟩ }) (fun r i B => B = l.take i) 0 [] rfl rfl rfl rfl rfl ?_ ?_
  · intro B hB
    rw [List.take_length] at hB
    refine fR rfl ?_
    refine lM rfl rfl rfl ?_
    refine fM rfl ?_
    refine Run.condF rfl rfl (by simp) ?_
    refine fR rfl ?_
    refine Run.fin rfl (EndOk.go ?_); exact .own (by rw [hB])
  · intro i x r B h1 hi hd hB ih
    have hBl : B.length = i := by rw [hB]; simp; omega
    refine fR rfl ?_
    refine lM rfl rfl rfl ?_
    refine fM rfl ?_
    refine Run.condT rfl rfl (by simp; omega) ?_
    refine fR rfl ?_
    refine Mid.elemMap rfl rfl rfl h1 rfl rfl ?_
    refine fM rfl ?_
    refine Mid.elemMap rfl rfl rfl h1 rfl rfl ?_
    refine fM rfl ?_
    refine Mid.elemMap rfl rfl rfl h1 rfl rfl ?_
    refine fM rfl ?_
    refine Mid.elemMap rfl rfl rfl h1 rfl rfl ?_
    refine fM rfl ?_
    refine Mid.elemMap rfl rfl rfl h1 rfl rfl ?_
    refine fM rfl ?_
    refine apM Place.enc B [x] rfl rfl rfl rfl rfl ?_ (h1 := by first | omega | (simp; omega) | (simp; done)) (h2 := by first | omega | (simp; omega) | (simp; done))
    refine fM rfl ?_
    refine aL rfl rfl rfl rfl rfl ?_
    refine fM rfl ?_
    exact rWeak 1 rfl (ih (B ++ [x]) (by rw [hB, List.take_add_one, h1]; rfl)) rfl rfl rfl
theorem sameHops_ok (H : Pr29 P) (l : List Hop) (hl : l.length ≤ 140737488355328) : FnOk P 5 [.t (.lst (l.map Hop.enc)), .t (.lst (l.map Hop.enc))] ⟨[], 0⟩ { v := .t (.bool true) } := by
  refine FnOk.run H.i5 H.mixed rfl rfl ?_
  refine fR rfl ?_
  refine lM rfl rfl rfl ?_
  refine fM rfl ?_
  refine lM rfl rfl rfl ?_
  refine fM rfl ?_
  refine Run.condF rfl rfl (by simp) ?_
  refine fR rfl ?_
  refine rList l (fun i (_ : Unit) => { env := [(0, .t (.lst (l.map Hop.enc))), (1, .t (.lst (l.map Hop.enc))), (5, .t (.int .i64 i))], s := ⟨[], 0⟩ }) (fun r i _ => True) 0 () rfl trivial rfl rfl rfl ?_ ?_
  · intro _ _
    refine fR rfl ?_
    refine lM rfl rfl rfl ?_
    refine fM rfl ?_
    refine Run.condF rfl rfl (by simp) ?_
    refine fR rfl ?_
    refine Run.fin rfl (EndOk.go ?_); exact .t rfl
  · intro i x r _ h1 hi hd _ ih
    refine fR rfl ?_
    refine lM rfl rfl rfl ?_
    refine fM rfl ?_
    refine Run.condT rfl rfl (by simp; omega) ?_
    refine fR rfl ?_
    refine Mid.elemMap rfl rfl rfl h1 rfl rfl ?_
    refine fM rfl ?_
    refine Mid.elemMap rfl rfl rfl h1 rfl rfl ?_
    refine fM rfl ?_
    refine p0 rfl ?_
    refine fM rfl ?_
    refine Run.condF rfl rfl (by simp [keyEq, T.eqb]) ?_
    refine fR rfl ?_
    refine aL rfl rfl rfl rfl rfl ?_
    refine fM rfl ?_
    exact rWeak 0 rfl (ih () trivial) rfl rfl rfl
end Go.GB.C29


/-
  N29I: contracts of chapter 29's functions: lists of hops are reversed.
-/
namespace Go.GB.C29
open Go.GB Go.GB.C26
set_option linter.unusedSimpArgs false
set_option linter.unusedVariables false
set_option maxRecDepth 100000
set_option maxHeartbeats 16000000
variable {P : Program}
structure RInv (l : List Hop) (i j : Nat) (A : List Hop) : Prop where
  len : A.length = l.length
  ij : i + j + 1 = l.length
  at_ : ∀ k, k < l.length → A[k]? = if k < i ∨ j < k then l.reverse[k]? else l[k]?
theorem RInv.done {l A : List Hop} {i j : Nat} (h : RInv l i j A) (hij : ¬ i < j) : A = l.reverse := by
  apply List.ext_getElem?
  intro k
  have hij2 := h.ij
  by_cases hk : k < l.length
  · rw [h.at_ k hk]
    split
    · rfl
    · have : k = i ∧ k = j := by omega
      obtain ⟨rfl, rfl⟩ := this
      rw [List.getElem?_reverse (by omega)]
      congr 1; omega
  · rw [List.getElem?_eq_none (by rw [h.len]; omega), List.getElem?_eq_none (by simp; omega)]
theorem RInv.step {l A : List Hop} {i j : Nat} {x y : Hop} (h : RInv l i j A) (hij : i < j) (hx : A[i]? = some x) (hy : A[j]? = some y) : RInv l (i + 1) (j - 1) ((A.set i y).set j x) := by
  have hij2 := h.ij
  have hx' : l[i]? = some x := by
    have := h.at_ i (by omega)
    rw [if_neg (by omega)] at this
    rw [← this, hx]
  have hy' : l[j]? = some y := by
    have := h.at_ j (by omega)
    rw [if_neg (by omega)] at this
    rw [← this, hy]
  refine ⟨by simp [h.len], by omega, fun k hk => ?_⟩
  have hAl := h.len
  by_cases h1 : k = j
  · subst h1
    rw [List.getElem?_set_self (by simp; omega), if_pos (by omega), List.getElem?_reverse (by omega), ← hx']
    congr 1; omega
  · rw [List.getElem?_set_ne (fun e => h1 e.symm)]
    by_cases h2 : k = i
    · subst h2
      rw [List.getElem?_set_self (by omega), if_pos (by omega), List.getElem?_reverse (by omega), ← hy']
      congr 1; omega
    · rw [List.getElem?_set_ne (fun e => h2 e.symm), h.at_ k hk]
      by_cases h3 : k < i ∨ j < k
      · rw [if_pos h3, if_pos (by omega)]
      · rw [if_neg h3, if_neg (by omega)]
theorem hTb (m : Nat) (A : List Hop) : V.bds m (gE (gT Hop.enc) A) = true := V.bds_gE (fun x => by simp [gT, Hop.enc, V.bds, V.bd]) A
theorem reverse_ok (H : Pr29 P) (l : List Hop) (hl : l.length ≤ 1000000) : FnOk P 12 [.gsl 0 l.length 0 l.length 2] ⟨[(0, .gro l.length (gE (gT Hop.enc) l))], 1⟩ { v := .tup [], ob := [(0, .gro l.length (gE (gT Hop.enc) l.reverse))], n := 0, rd := true } := by
  by_cases hn : l = []
  · subst hn
    refine FnOk.run H.i12 H.mixed rfl rfl ?_
    refine fR rfl ?_
    refine pu rfl ?_
    refine s64 rfl rfl rfl ?_
    refine fM rfl ?_
    refine Run.loop rfl ?_
    refine Run.unroll ?_
    refine fR rfl ?_
    refine Run.condF rfl rfl rfl ?_
    skip
    refine Run.fin rfl (EndOk.chg rfl rfl ?_ ?_)
    · exact .tup .nil
    · exact ⟨.inl ⟨Nat.le_of_ble_eq_true rfl, _, rfl, .gro (.same rfl)⟩, trivial⟩
  have hlp : 0 < l.length := List.length_pos_iff.2 hn
  refine FnOk.run H.i12 H.mixed rfl rfl ?_
  refine fR rfl ?_
  refine pu rfl ?_
  refine s64 rfl rfl rfl ?_
  refine fM rfl ?_
  refine rLoopM (fun (B : (Nat × Nat) × List Hop) => { env := [(0, .gsl 0 l.length 0 l.length 2), (2, .t (.int .i64 B.1.1)), (3, .t (.int .i64 B.1.2))], s := ⟨[(0, .gro l.length (gE (gT Hop.enc) B.2))], 1⟩ }) (fun B => RInv l B.1.1 B.1.2 B.2) (fun B => l.length - B.1.1) 1 ((0, l.length - 1), l) rfl ⟨rfl, by dsimp only; omega, fun k hk => by rw [if_neg (by dsimp only; omega)]⟩ rfl rfl rfl ?_ (he := ?_) (hs := ?_)
  · rintro ⟨⟨i, j⟩, A⟩ hI ih
    dsimp only at hI
    dsimp only
    have hAl := hI.len
    have hij2 := hI.ij
    refine fR rfl ?_
    by_cases hij : i < j
    · obtain ⟨x, hx⟩ : ∃ x, A[i]? = some x := ⟨_, List.getElem?_eq_getElem (by omega)⟩
      obtain ⟨y, hy⟩ : ∃ y, A[j]? = some y := ⟨_, List.getElem?_eq_getElem (by omega)⟩
      have hy2 : (A.set i y)[j]? = some y := by rw [List.getElem?_set_ne (by omega)]; exact hy
      refine Run.condT rfl rfl (by simp; omega) ?_
      refine fR rfl ?_
      refine pu rfl ?_
      refine Mid.ldGA (j) 0 (sz := 2) rfl rfl (by omega) (by omega) (gT_length (fun _ => rfl)) (hy) (by decide) rfl rfl ?_
      refine fM rfl ?_
      refine pu rfl ?_
      refine Mid.ldGA (i) 0 (sz := 2) rfl rfl (by omega) (by omega) (gT_length (fun _ => rfl)) (hx) (by decide) rfl rfl ?_
      refine pu rfl ?_
      refine Mid.stG (y) (i) 0 (sz := 2) rfl rfl rfl rfl rfl (by omega) (gT_length (fun _ => rfl)) (hx) (by decide) rfl rfl ?_
      refine pu rfl ?_
      refine Mid.stG (x) (j) 0 (sz := 2) rfl rfl rfl rfl rfl (by omega) (gT_length (fun _ => rfl)) (hy2) (by decide) rfl rfl ?_
      refine fM rfl ?_
      refine aL rfl rfl rfl rfl rfl ?_
      refine fM rfl ?_
      refine s64 rfl rfl rfl ?_
      refine fM rfl ?_
      exact rWeak 1 rfl (ih ((i + 1, j - 1), (A.set i y).set j x) (by dsimp only; omega) (hI.step hij hx hy)) rfl rfl rfl (he := ⟨.same rfl, .t, .tEq (by congr 1; dsimp only; omega), trivial⟩) (hs := ⟨.inl ⟨Nat.le_of_ble_eq_true rfl, _, rfl, .gro (.gE rfl fun _ => rfl)⟩, trivial⟩)
    · refine Run.condF rfl rfl (by simp; omega) ?_
      skip
      have hd := hI.done hij
      subst hd
      refine Run.fin rfl (EndOk.chg rfl rfl ?_ ?_)
      · exact .tup .nil
      · exact ⟨.inl ⟨Nat.le_of_ble_eq_true rfl, _, rfl, .gro (.gE rfl fun _ => rfl)⟩, trivial⟩
  · refine ⟨.same rfl, .tEq ?_, .tEq ?_, trivial⟩
    · rfl
    · congr 1; dsimp only; omega
  · exact ⟨.inl ⟨Nat.le_of_ble_eq_true rfl, _, rfl, .gro (.gE rfl fun _ => rfl)⟩, trivial⟩
end Go.GB.C29


/-
  N29J: contracts of chapter 29's functions: Path of both sides.
-/
namespace Go.GB.C29
open Go.GB Go.GB.C26
set_option linter.unusedSimpArgs false
set_option linter.unusedVariables false
set_option maxRecDepth 100000
set_option maxHeartbeats 16000000
variable {P : Program}
theorem upF_fuel (l : List Place) : ∀ (n : Nat) (k : Nat) (acc : List Hop), n < k → upF l k n acc = upF l (n + 1) n acc := by
  intro n
  induction n using Nat.strongRecOn with
  | _ n ih =>
    intro k acc hk
    obtain ⟨k, rfl⟩ : ∃ j, k = j + 1 := ⟨k - 1, by omega⟩
    simp only [upF]
    cases l[n]? with
    | none => rfl
    | some p =>
      simp only
      split
      · rfl
      · split
        · rfl
        · rename_i h1 h2
          have hq : p.parent.toNat < n := by omega
          rw [ih _ hq k _ (by omega), ih _ hq n _ hq]
def endF (o : Option (List Hop)) : List Hop := match o with | some h => h.reverse | none => []
theorem pathF_in {l : List Place} {n : Nat} (h : n < l.length) : pathF l n = endF (upF l (n + 1) n []) := by
  unfold pathF endF
  rw [if_neg (by omega)]
  simp only [Int.toNat_natCast] <;> rfl
theorem upF_at {l : List Place} {n : Nat} {p : Place} {acc : List Hop} (h : l[n]? = some p) : upF l (n + 1) n acc = if p.parent = -1 then some acc else if p.parent < -1 ∨ p.parent ≥ n then none else upF l (p.parent.toNat + 1) p.parent.toNat (acc ++ [p.hop]) := by
  simp only [upF, h]
  split
  · rfl
  · split
    · rfl
    · exact upF_fuel l _ _ _ (by omega)
theorem path_ok (H : Pr29 P) (l : List Place) (hl : l.length ≤ 1000000) (i : Int) : FnOk P 6 [.t (.lst (l.map Place.enc)), .t (.int .i64 i)] ⟨[], 0⟩ { v := .t (.lst ((pathF l i).map Hop.enc)) } := by
  by_cases hi : i < 0 ∨ i ≥ l.length
  · have e : pathF l i = [] := by unfold pathF; rw [if_pos hi]
    rw [e]
    refine FnOk.run H.i6 H.mixed rfl rfl ?_
    refine fR rfl ?_
    refine lMG rfl rfl rfl rfl ?_
    refine fM rfl ?_
    refine Run.condT rfl rfl (by simp; omega) ?_
    refine fR rfl ?_
    refine Run.fin rfl (EndOk.go ?_); exact .nil rfl
  obtain ⟨n0, rfl⟩ : ∃ n : Nat, i = n := ⟨i.toNat, by omega⟩
  have hn0 : n0 < l.length := by omega
  rw [pathF_in hn0]
  generalize hR : endF (upF l (n0 + 1) n0 []) = R
  refine FnOk.run H.i6 H.mixed rfl rfl ?_
  refine fR rfl ?_
  refine lMG rfl rfl rfl rfl ?_
  refine fM rfl ?_
  refine Run.condF rfl rfl (by simp; omega) ?_
  refine fR rfl ?_
  refine rLoopM (fun (B : Nat × List Hop) => { env := [(0, .t (.lst (l.map Place.enc))), (1, .t (.int .i64 B.1)), (5, .gsl 0 B.2.length 0 B.2.length 2)], s := ⟨[(0, .gro B.2.length (gE (gT Hop.enc) B.2))], 1⟩ }) (fun B => B.1 + B.2.length ≤ n0 ∧ endF (upF l (B.1 + 1) B.1 B.2) = R) (fun B => B.1) 0 (n0, []) rfl ⟨by simp, hR⟩ rfl rfl rfl ?_
  rintro ⟨n, acc⟩ ⟨hn, hE⟩ ih
  dsimp only at hn hE
  dsimp only
  obtain ⟨p, hp⟩ : ∃ p, l[n]? = some p := ⟨_, List.getElem?_eq_getElem (by omega)⟩
  rw [upF_at hp] at hE
  refine fR rfl ?_
  refine Mid.elemMap rfl rfl rfl hp rfl rfl ?_
  refine fM rfl ?_
  by_cases h1 : p.parent = -1
  · rw [if_pos h1] at hE
    refine Run.condF rfl rfl (by simp [h1]) ?_
    have hrv := reverse_ok H acc (by omega)
    have hE : acc.reverse = R := hE
    rw [hE] at hrv
    refine Run.fast (f := 3) rfl (by (repeat' (first | exact trivial | exact Bool.not_or_self _ | exact grd1 _ | exact grd2 _ | exact grd3 _ _ | exact grd4 _ _ | refine And.intro ?_ ?_ | exact rfl | (simp; done) | (simp <;> omega))); done) ?_
    refine Mid.callR [0] (hrv) rfl rfl rfl rfl (by simp [stoBd, AObj.bd, hTb]) (by repeat' (first | exact trivial | exact rfl | refine And.intro ?_ ?_ | exact (congrArg some (AObj.ren_mE _ _ _ _ _ _)).symm | exact (congrArg some (AObj.ren_cE _ _ _)).symm | (refine (congrArg some (AObj.ren_gE ?_ _ _)).symm; intro _; rfl))) rfl rfl (ob' := [(0, .gro acc.length (gE (gT Hop.enc) R))]) ((by simp only [renOb, AObj.ren_gE (f := gT Hop.enc) (f' := gT Hop.enc) (fun _ => rfl)]; rfl)) rfl rfl ?_
    refine Mid.fast (f := 1) rfl (by (repeat' (first | exact trivial | exact Bool.not_or_self _ | exact grd1 _ | exact grd2 _ | exact grd3 _ _ | exact grd4 _ _ | refine And.intro ?_ ?_ | exact rfl | (simp; done) | (simp <;> omega))); done) ?_
    have hRl : R.length = acc.length := by rw [← hE]; simp
    refine Run.weakZ 0 rfl (st' := { env := [(5, .t (.lst (R.map Hop.enc)))], s := ⟨[], 0⟩ }) ?_ rfl rfl rfl ⟨LeZ.gE _ _ (Nat.le_of_ble_eq_true rfl) rfl (List.take_of_length_le (by omega)).symm (by omega) (fun _ => rfl), trivial⟩ trivial
    refine fR rfl ?_
    refine Run.fin rfl (EndOk.go ?_); exact .t rfl
  · rw [if_neg h1] at hE
    refine Run.condT rfl rfl (by simpa using h1) ?_
    refine fR rfl ?_
    refine Mid.elemMap rfl rfl rfl hp rfl rfl ?_
    refine fM rfl ?_
    by_cases h2 : p.parent < -1 ∨ p.parent ≥ n
    · rw [if_pos h2] at hE
      subst hE
      refine Run.condT rfl rfl (by simp; omega) ?_
      refine fR rfl ?_
      refine Run.fin rfl (EndOk.go ?_); exact .nil rfl
    · rw [if_neg h2] at hE
      refine Run.condF rfl rfl (by simp; omega) ?_
      refine fR rfl ?_
      refine Mid.elemMap rfl rfl rfl hp rfl rfl ?_
      refine fM rfl ?_
      refine Mid.appGG (gT Hop.enc) acc [p.hop] rfl rfl (addV_t rfl (fun _ => rfl)) (gT_cellOk _) (gT_length (fun _ => rfl)) (by first | omega | (simp; omega) | (simp; done)) (by first | omega | (simp; omega) | (simp; done)) rfl ?_
      refine fM rfl ?_
      exact rWeak 1 rfl (ih (p.parent.toNat, acc ++ [p.hop]) (by dsimp only; omega) ⟨by dsimp only; simp; omega, hE⟩) rfl rfl rfl (he := ⟨.same rfl, .tEq (by congr 1; dsimp only; omega), .gslEq (by simp) rfl rfl (Nat.le_of_ble_eq_true rfl), trivial⟩) (hs := ⟨.inl ⟨Nat.le_of_ble_eq_true rfl, _, rfl, .groE (by simp) (.gE rfl fun _ => rfl)⟩, trivial⟩)
theorem rpath_ok (H : Pr29 P) (l : List Place) (hl : l.length ≤ 1000000) (i : Int) : FnOk P 7 [.t (.lst (l.map Place.enc)), .t (.int .i64 i)] ⟨[], 0⟩ { v := .t (.lst ((pathF l i).map Hop.enc)) } := by
  by_cases hi : i < 0 ∨ i ≥ l.length
  · have e : pathF l i = [] := by unfold pathF; rw [if_pos hi]
    rw [e]
    refine FnOk.run H.i7 H.mixed rfl rfl ?_
    refine fR rfl ?_
    refine lMG rfl rfl rfl rfl ?_
    refine fM rfl ?_
    refine Run.condT rfl rfl (by simp; omega) ?_
    refine fR rfl ?_
    refine Run.fin rfl (EndOk.go ?_); exact .nil rfl
  obtain ⟨n0, rfl⟩ : ∃ n : Nat, i = n := ⟨i.toNat, by omega⟩
  have hn0 : n0 < l.length := by omega
  rw [pathF_in hn0]
  generalize hR : endF (upF l (n0 + 1) n0 []) = R
  refine FnOk.run H.i7 H.mixed rfl rfl ?_
  refine fR rfl ?_
  refine lMG rfl rfl rfl rfl ?_
  refine fM rfl ?_
  refine Run.condF rfl rfl (by simp; omega) ?_
  refine fR rfl ?_
  refine rLoopM (fun (B : Nat × List Hop) => { env := [(0, .t (.lst (l.map Place.enc))), (1, .t (.int .i64 B.1)), (5, .own 0 2 (B.2.map Hop.enc))], s := ⟨[(0, .arr B.2.length)], 1⟩ }) (fun B => B.1 + B.2.length ≤ n0 ∧ endF (upF l (B.1 + 1) B.1 B.2) = R) (fun B => B.1) 0 (n0, []) rfl ⟨by simp, hR⟩ rfl rfl rfl ?_
  rintro ⟨n, acc⟩ ⟨hn, hE⟩ ih
  dsimp only at hn hE
  dsimp only
  obtain ⟨p, hp⟩ : ∃ p, l[n]? = some p := ⟨_, List.getElem?_eq_getElem (by omega)⟩
  rw [upF_at hp] at hE
  refine fR rfl ?_
  refine Mid.elemMap rfl rfl rfl hp rfl rfl ?_
  refine fM rfl ?_
  by_cases h1 : p.parent = -1
  · rw [if_pos h1] at hE
    have hE : acc.reverse = R := hE
    refine Run.condF rfl rfl (by simp [h1]) ?_
    refine fR rfl ?_
    refine lM rfl rfl rfl ?_
    refine s64 rfl rfl rfl ?_
    refine fM rfl ?_
    have hRl : R.length = acc.length := by rw [← hE]; simp
    refine rList R (fun i (B : List Hop) => { env := [(5, .own 0 2 (acc.map Hop.enc)), (6, .own 1 2 (B.map Hop.enc)), (7, .t (.int .i64 ((acc.length : Int) - 1 - (i : Nat))))], s := ⟨[(0, .arr acc.length), (1, .arr B.length)], 2⟩ }) (fun r i B => B = R.take i) 1 [] rfl rfl rfl rfl rfl ?_ ?_
    · intro B hB
      rw [List.take_length] at hB
      refine fR rfl ?_
      refine Run.condF rfl rfl (by simp; omega) ?_
      refine fR rfl ?_
      refine Run.fin rfl (EndOk.go ?_); exact .own (by rw [hB])
    · intro i x r B k1 hi2 kd hB ih2
      have hBl : B.length = i := by rw [hB]; simp; omega
      have hx : acc[acc.length - 1 - i]? = some x := by
        rw [← hE, List.getElem?_reverse (by omega)] at k1
        exact k1
      rw [show ((acc.length : Int) - 1 - (i : Nat)) = ((acc.length - 1 - i : Nat) : Int) by omega]
      refine fR rfl ?_
      refine Run.condT rfl rfl (by simp) ?_
      refine fR rfl ?_
      refine Mid.elemMap rfl rfl rfl hx rfl rfl ?_
      refine fM rfl ?_
      refine apM Hop.enc B [x] rfl rfl rfl rfl rfl ?_ (h1 := by first | omega | (simp; omega) | (simp; done)) (h2 := by first | omega | (simp; omega) | (simp; done))
      refine fM rfl ?_
      refine s64 rfl rfl rfl ?_
      refine fM rfl ?_
      exact rWeak 2 rfl (ih2 (B ++ [x]) (by rw [hB, List.take_add_one, k1]; rfl)) rfl rfl rfl (he := ⟨.same rfl, .same rfl, .tEq (by congr 1; omega), trivial⟩)
  · rw [if_neg h1] at hE
    refine Run.condT rfl rfl (by simpa using h1) ?_
    refine fR rfl ?_
    refine Mid.elemMap rfl rfl rfl hp rfl rfl ?_
    refine fM rfl ?_
    refine elG rfl rfl rfl rfl hp rfl rfl ?_
    refine fM rfl ?_
    by_cases h2 : p.parent < -1 ∨ p.parent ≥ n
    · rw [if_pos h2] at hE
      subst hE
      refine Run.condT rfl rfl (by simp; omega) ?_
      refine fR rfl ?_
      refine Run.fin rfl (EndOk.go ?_); exact .nil rfl
    · rw [if_neg h2] at hE
      refine Run.condF rfl rfl (by simp; omega) ?_
      refine fR rfl ?_
      refine Mid.elemMap rfl rfl rfl hp rfl rfl ?_
      refine fM rfl ?_
      refine apM Hop.enc acc [p.hop] rfl rfl rfl rfl rfl ?_ (h1 := by first | omega | (simp; omega) | (simp; done)) (h2 := by first | omega | (simp; omega) | (simp; done))
      refine fM rfl ?_
      refine Mid.elemMap rfl rfl rfl hp rfl rfl ?_
      refine fM rfl ?_
      exact rWeak 1 rfl (ih (p.parent.toNat, acc ++ [p.hop]) (by dsimp only; omega) ⟨by dsimp only; simp; omega, hE⟩) rfl rfl rfl (he := ⟨.same rfl, .tEq (by congr 1; dsimp only; omega), .same rfl, trivial⟩) (hs := ⟨.inl ⟨Nat.le_of_ble_eq_true rfl, _, rfl, .arr rfl⟩, trivial⟩)
end Go.GB.C29


/-
  R26H: contracts of chapter 26's functions: the reference's level, greatest, key.
-/
namespace Go.GB.C26
open Go.GB
set_option linter.unusedSimpArgs false
set_option linter.unusedVariables false
set_option maxRecDepth 100000
set_option maxHeartbeats 1000000
variable {P : Program}

def least (a b : Int) : Int := if (a == 0 || (decide (b > 0) && decide (b < a))) = true then b else a
def tSto (n : Nat) (js : List Join) (ks : List KeyO) (sp : List Spot) (D A : List Int) : List (Nat × AObj) :=
  [(0, .cells [.t (.int .i64 n), .t (.lst (js.map Join.enc)), .t (.lst (ks.map KeyO.enc)), .t (.lst (sp.map Spot.enc)), .slc 1 0 js.length 1, .slc 2 0 n 1]), (1, .cells (cE iE D)), (2, .cells (cE iE A))]
theorem tSto_bd {n : Nat} {js : List Join} {ks : List KeyO} {sp : List Spot} {D A : List Int} : stoBd 3 (tSto n js ks sp D A) = true := by
  simp [tSto, stoBd, AObj.bd_mE, AObj.bd_cE]; simp [AObj.bd, V.bds, V.bd]

structure TOk (n : Nat) (js : List Join) (ks : List KeyO) (sp : List Spot) (D A : List Int) : Prop where
  hn : n ≤ 2000
  lenD : D.length = js.length
  lenA : A.length = n
  jsL : js.length ≤ 100000
  ksL : ks.length ≤ 100000
  spL : sp.length ≤ 100000
  spO : ∀ x ∈ sp, x.ok
  jsO : ∀ j ∈ js, (0 ≤ j.graph ∧ j.graph < n) ∧ j.req.length ≤ 100000 ∧ j.prov.length ≤ 100000
  ksO : ∀ k ∈ ks, k.ok

def foldA (A : List Int) : Nat → Nat → Int → Int
  | _, 0, b => b
  | i, c + 1, b => foldA A (i + 1) c (least b (A.getD i 0))
def foldD (D : List Int) (f : Str) : Nat → List Join → Int → Int
  | _, [], b => b
  | i, j :: r, b => foldD D f (i + 1) r (if j.field = f then least b (D.getD i 0) else b)
def tlevel (n : Nat) (js : List Join) (D A : List Int) (f : Str) : Int :=
  if f = tyN then foldA A 0 n 0 else foldD D f 0 js 0
def tgreat (n : Nat) (js : List Join) (D A : List Int) : List Str → Int → Int
  | [], m => m
  | f :: r, m => if tlevel n js D A f = 0 then 0 else tgreat n js D A r (if tlevel n js D A f > m then tlevel n js D A f else m)
def tkey (n : Nat) (js : List Join) (D A : List Int) (g : Int) : List KeyO → Int → Int
  | [], b => b
  | k :: r, b => tkey n js D A g r (if k.graph = g then least b (tgreat n js D A k.fields 0) else b)

section
variable {n : Nat} {js : List Join} {ks : List KeyO} {sp : List Spot} {D A : List Int}

end
end Go.GB.C26


/-
  R26I: contracts of chapter 26's functions: the reference's graph, join.
-/
namespace Go.GB.C26
open Go.GB
set_option linter.unusedSimpArgs false
set_option linter.unusedVariables false
set_option maxRecDepth 100000
set_option maxHeartbeats 1000000
variable {P : Program}

def tspot (g : Int) : List Spot → Int → Int
  | [], b => b
  | x :: r, b => tspot g r (if x.graph = g then least b x.depth else b)
def tgraph (n : Nat) (js : List Join) (ks : List KeyO) (sp : List Spot) (D A : List Int) (g : Int) : Int :=
  if tkey n js D A g ks 0 > 0 then least (tspot g sp 0) (IntKind.i64.wrap (1 + tkey n js D A g ks 0)) else tspot g sp 0
def tprov (j : Join) : List Spot → Int → Int
  | [], b => b
  | x :: r, b => tprov j r (if (x.graph == j.graph && decide (j.field ∈ x.prov)) = true then least b x.depth else b)
def tjoin (n : Nat) (js : List Join) (ks : List KeyO) (sp : List Spot) (D A : List Int) (j : Join) : Int :=
  if j.ext = true then tprov j sp 0
  else if j.req.length = 0 then tgraph n js ks sp D A j.graph
  else if (tkey n js D A j.graph ks 0 == 0 || tgreat n js D A j.req 0 == 0) = true then 0
  else IntKind.i64.wrap (1 + (if tgreat n js D A j.req 0 > tkey n js D A j.graph ks 0 then tgreat n js D A j.req 0 else tkey n js D A j.graph ks 0))

section
variable {n : Nat} {js : List Join} {ks : List KeyO} {sp : List Spot} {D A : List Int}

end
end Go.GB.C26


/-
  R26J: contracts of chapter 26's functions: the reference's open.
-/
namespace Go.GB.C26
open Go.GB
set_option linter.unusedSimpArgs false
set_option linter.unusedVariables false
set_option maxRecDepth 100000
set_option maxHeartbeats 1000000
variable {P : Program}

def sameJ (y j : Join) : Bool := (y.ty == j.ty) && (y.field == j.field) && (y.graph == j.graph)
def firstJ (j : Join) : List Join → Bool → Bool
  | [], b => b
  | y :: r, b => firstJ j r (if sameJ y j = true then false else b)
def inR (n : Nat) (name : Str) (j : Join) (b : Bool) : Bool := (j.ty == name) && decide (j.graph ≥ 0) && decide (j.graph < n) && b
def joinsR (n : Nat) (name : Str) : List Join → List Join → List Join → List Join
  | _, [], acc => acc
  | pre, j :: r, acc => joinsR n name (pre ++ [j]) r (if inR n name j (firstJ j pre true) = true then acc ++ [j] else acc)
def spotsR (n : Nat) : List Spot → List Spot → List Spot
  | [], acc => acc
  | x :: r, acc => spotsR n r (if inb n x = true then acc ++ [x] else acc)

section
variable {s : Super} {name : Str} {here sp : List Spot} {js : List Join} {ks : List KeyO}

end
end Go.GB.C26


/-
  R26K: contracts of chapter 26's functions: the reference's fill.
-/
namespace Go.GB.C26
open Go.GB
set_option linter.unusedSimpArgs false
set_option linter.unusedVariables false
set_option maxRecDepth 100000
set_option maxHeartbeats 1000000
variable {P : Program}

def dR (n : Nat) (js : List Join) (ks : List KeyO) (sp : List Spot) (A : List Int) : Nat → List Join → List Int → Bool → List Int × Bool
  | _, [], D, ch => (D, ch)
  | i, j :: r, D, ch => if tjoin n js ks sp D A j ≠ D.getD i 0 then dR n js ks sp A (i + 1) r (D.set i (tjoin n js ks sp D A j)) true else dR n js ks sp A (i + 1) r D ch
def aR (n : Nat) (js : List Join) (ks : List KeyO) (sp : List Spot) (D : List Int) : Nat → Nat → List Int → Bool → List Int × Bool
  | _, 0, A, ch => (A, ch)
  | i, c + 1, A, ch => if tgraph n js ks sp D A i ≠ A.getD i 0 then aR n js ks sp D (i + 1) c (A.set i (tgraph n js ks sp D A i)) true else aR n js ks sp D (i + 1) c A ch
def tround (n : Nat) (js : List Join) (ks : List KeyO) (sp : List Spot) (D A : List Int) : List Int × List Int × Bool :=
  ((dR n js ks sp A 0 js D false).1, (aR n js ks sp (dR n js ks sp A 0 js D false).1 0 n A (dR n js ks sp A 0 js D false).2).1, (aR n js ks sp (dR n js ks sp A 0 js D false).1 0 n A (dR n js ks sp A 0 js D false).2).2)
def iterT (n : Nat) (js : List Join) (ks : List KeyO) (sp : List Spot) : Nat → List Int → List Int → List Int × List Int
  | 0, D, A => (D, A)
  | f + 1, D, A => if (tround n js ks sp D A).2.2 = true then iterT n js ks sp f (tround n js ks sp D A).1 (tround n js ks sp D A).2.1 else ((tround n js ks sp D A).1, (tround n js ks sp D A).2.1)
def stopsT (n : Nat) (js : List Join) (ks : List KeyO) (sp : List Spot) : Nat → List Int → List Int → Prop
  | 0, _, _ => False
  | f + 1, D, A => (tround n js ks sp D A).2.2 = true → stopsT n js ks sp f (tround n js ks sp D A).1 (tround n js ks sp D A).2.1

structure Fil (s : Super) (name : Str) (here sp : List Spot) (js : List Join) (ks : List KeyO) (D1 A1 : List Int) : Prop where
  h1 : s.graphs.length ≤ 2000
  h2 : here.length ≤ 100000
  h3 : s.joins.length ≤ 100000
  h4 : s.keys.length ≤ 100000
  e1 : spotsR s.graphs.length here [] = sp
  e2 : joinsR s.graphs.length name [] s.joins [] = js
  e3 : keys0 s.graphs.length name s.keys [] = ks
  hT : ∀ D A, D.length = js.length → A.length = s.graphs.length → TOk s.graphs.length js ks sp D A
  hD1 : D1.length = js.length
  hA1 : A1.length = s.graphs.length
  ex : ∃ fuel, stopsT s.graphs.length js ks sp fuel (List.replicate js.length 0) (List.replicate s.graphs.length 0) ∧ iterT s.graphs.length js ks sp fuel (List.replicate js.length 0) (List.replicate s.graphs.length 0) = (D1, A1)

section
variable {s : Super} {name : Str} {here sp : List Spot} {js : List Join} {ks : List KeyO} {D1 A1 : List Int}

end
end Go.GB.C26


/-
  R26L: contracts of chapter 26's functions: what the reference hands out; comparisons.
-/
namespace Go.GB.C26
open Go.GB
set_option linter.unusedSimpArgs false
set_option linter.unusedVariables false
set_option maxRecDepth 100000
set_option maxHeartbeats 1000000
variable {P : Program}

section
variable {s : Super} {name : Str} {here sp : List Spot} {js : List Join} {ks : List KeyO} {D A : List Int}

end
end Go.GB.C26


/-
  R26M: contracts of chapter 26's functions: Large, the law's numbers.
-/
namespace Go.GB.C26
open Go.GB
set_option linter.unusedSimpArgs false
set_option linter.unusedVariables false
set_option maxRecDepth 100000
set_option maxHeartbeats 1000000
variable {P : Program}

def nE (x : Int) : List T := [iE x]
end Go.GB.C26


/-
  R26P: numbers that get smaller step by step, where 0 is none; the least numbers as derivations.
-/
namespace Go.GB.C26
open Go.GB
set_option linter.unusedSimpArgs false
set_option linter.unusedVariables false
set_option linter.unusedSectionVars false
set_option maxRecDepth 100000

/-- there is a number, and it is at most d -/
def Q (x d : Int) : Prop := 1 ≤ x ∧ x ≤ d
theorem Q.mono {x d e : Int} (h : Q x d) (he : d ≤ e) : Q x e := ⟨h.1, by have := h.2; omega⟩
section
variable {ι : Type} [DecidableEq ι]
def upd (v : ι → Int) (i : ι) (x : Int) : ι → Int := fun k => if k = i then x else v k
def cnt (v : ι → Int) : List ι → Nat
  | [] => 0
  | i :: r => (if v i = 0 then 0 else 1) + cnt v r
def pot (v : ι → Int) : List ι → Nat
  | [] => 0
  | i :: r => (if v i = 0 then 4398046511104 else (v i).toNat) + pot v r
theorem cnt_le (v : ι → Int) : ∀ fs : List ι, cnt v fs ≤ fs.length
  | [] => Nat.le_refl _
  | i :: r => by have := cnt_le v r; simp only [cnt, List.length_cons]; split <;> omega
theorem cnt_upd {v : ι → Int} {i : ι} {x : Int} (hx : x ≠ 0) : ∀ fs : List ι, cnt v fs ≤ cnt (upd v i x) fs
  | [] => Nat.le_refl _
  | k :: r => by
    have := cnt_upd (v := v) (i := i) hx r
    simp only [cnt]
    by_cases h : k = i
    · have e : upd v i x k = x := by simp [upd, h]
      rw [e]; (repeat' split) <;> omega
    · have e : upd v i x k = v k := by simp [upd, h]
      rw [e]; split <;> omega
theorem cnt_upd0 {v : ι → Int} {i : ι} {x : Int} (hx : x ≠ 0) (h0 : v i = 0) : ∀ fs : List ι, i ∈ fs → cnt v fs + 1 ≤ cnt (upd v i x) fs
  | [], h => by cases h
  | k :: r, h => by
    have h2 := cnt_upd (v := v) (i := i) hx r
    simp only [cnt]
    by_cases hk : k = i
    · have e : upd v i x k = x := by simp [upd, hk]
      rw [e, hk]; simp only [h0, hx, if_true, if_false]; omega
    · have h3 := cnt_upd0 (i := i) hx h0 r (by cases h with | head => exact absurd rfl hk | tail _ h => exact h)
      have e : upd v i x k = v k := by simp [upd, hk]
      rw [e]; split <;> omega
theorem pot_upd' {v : ι → Int} {i : ι} {x : Int} (hx : 0 < x) (h0 : v i = 0 ∧ x < 4398046511104 ∨ x < v i) : ∀ fs : List ι, pot (upd v i x) fs ≤ pot v fs
  | [] => Nat.le_refl _
  | k :: r => by
    have h3 := pot_upd' hx h0 r
    simp only [pot]
    by_cases hk : k = i
    · have e : upd v i x k = x := by simp [upd, hk]
      rw [e, hk]; (repeat' split) <;> omega
    · have e : upd v i x k = v k := by simp [upd, hk]
      rw [e]; split <;> omega
theorem pot_upd {v : ι → Int} {i : ι} {x : Int} (hx : 0 < x) (h0 : v i = 0 ∧ x < 4398046511104 ∨ x < v i) : ∀ fs : List ι, i ∈ fs → pot (upd v i x) fs < pot v fs
  | [], h => by cases h
  | k :: r, h => by
    have h2 := pot_upd' hx h0 r
    simp only [pot]
    by_cases hk : k = i
    · have e : upd v i x k = x := by simp [upd, hk]
      rw [e, hk]; (repeat' split) <;> omega
    · have h3 := pot_upd hx h0 r (by cases h with | head => exact absurd rfl hk | tail _ h => exact h)
      have e : upd v i x k = v k := by simp [upd, hk]
      rw [e]; split <;> omega
structure Bd (fs : List ι) (v : ι → Int) : Prop where
  len : fs.length ≤ 1000000
  nn : ∀ i, 0 ≤ v i
  le : ∀ i, v i ≤ 1099511627776 + cnt v fs
theorem Bd.lt {fs : List ι} {v : ι → Int} (h : Bd fs v) (i : ι) : v i ≤ 1099512627776 := by
  have := h.le i; have := cnt_le v fs; have := h.len; omega
theorem Bd.step {fs : List ι} {v : ι → Int} (h : Bd fs v) {i : ι} {x : Int} (hi : i ∈ fs) (hx : 0 < x) (hc : v i = 0 ∨ x < v i) (hb : x ≤ 1099511627776 + cnt v fs + 1) :
    Bd fs (upd v i x) ∧ pot (upd v i x) fs < pot v fs := by
  have h1 := cnt_le v fs
  have h2 := h.len
  have h3 := cnt_upd (v := v) (i := i) (x := x) (by omega) fs
  refine ⟨⟨h2, fun k => ?_, fun k => ?_⟩, pot_upd hx ?_ fs hi⟩
  · have e : upd v i x k = if k = i then x else v k := rfl
    rw [e]; split
    · omega
    · exact h.nn k
  · have e : upd v i x k = if k = i then x else v k := rfl
    rw [e]; split
    · rcases hc with hc | hc
      · have := cnt_upd0 (x := x) (by omega) hc fs hi
        omega
      · have := h.le i; omega
    · have := h.le k; omega
  · rcases hc with hc | hc
    · left; exact ⟨hc, by omega⟩
    · right; exact hc
end

inductive Fct where
  | a (g : Int)
  | l (f : Str)
  | j (j : Join)
/-- what follows from spots, joins and keys: a number at most d -/
inductive Der (n : Nat) (sp : List Spot) (js : List Join) (ks : List KeyO) : Fct → Int → Prop where
  | spot (x : Spot) : x ∈ sp → Der n sp js ks (.a x.graph) x.depth
  | key (k : KeyO) (d : Int) : k ∈ ks → k.fields ≠ [] → (∀ f, f ∈ k.fields → Der n sp js ks (.l f) d) → Der n sp js ks (.a k.graph) (d + 1)
  | lj (j : Join) (d : Int) : j ∈ js → Der n sp js ks (.j j) d → Der n sp js ks (.l j.field) d
  | lt (g : Nat) (d : Int) : g < n → Der n sp js ks (.a g) d → Der n sp js ks (.l tyN) d
  | jx (j : Join) (x : Spot) : j.ext = true → x ∈ sp → x.graph = j.graph → j.field ∈ x.prov → Der n sp js ks (.j j) x.depth
  | j0 (j : Join) (d : Int) : j.ext = false → j.req = [] → Der n sp js ks (.a j.graph) d → Der n sp js ks (.j j) d
  | jr (j : Join) (k : KeyO) (d : Int) : j.ext = false → j.req ≠ [] → k ∈ ks → k.graph = j.graph → k.fields ≠ [] → (∀ f, f ∈ k.fields → Der n sp js ks (.l f) d) → (∀ f, f ∈ j.req → Der n sp js ks (.l f) d) → Der n sp js ks (.j j) (d + 1)
  | up (x : Fct) (d e : Int) : Der n sp js ks x d → d ≤ e → Der n sp js ks x e

/-- all given things are in range -/
structure In (n : Nat) (sp : List Spot) (js : List Join) (ks : List KeyO) : Prop where
  n0 : n ≤ 1000
  jl : js.length ≤ 1000
  sg : ∀ x ∈ sp, 0 ≤ x.graph ∧ x.graph < n ∧ 1 ≤ x.depth ∧ x.depth ≤ 1099511627776
  jg : ∀ j ∈ js, 0 ≤ j.graph ∧ j.graph < n
  kg : ∀ k ∈ ks, 0 ≤ k.graph ∧ k.graph < n

/-- the numbers say what can be derived -/
structure Ans (n : Nat) (sp : List Spot) (js : List Join) (ks : List KeyO) (a : Nat → Int) (l : Str → Int) (rd : Join → Int) : Prop where
  na : ∀ g, g < n → 0 ≤ a g
  nl : ∀ f, 0 ≤ l f
  nj : ∀ j, j ∈ js → 0 ≤ rd j
  qa : ∀ g, g < n → ∀ d, Q (a g) d ↔ Der n sp js ks (.a g) d
  ql : ∀ f d, Q (l f) d ↔ Der n sp js ks (.l f) d
  qj : ∀ j, j ∈ js → ∀ d, Q (rd j) d ↔ Der n sp js ks (.j j) d

end Go.GB.C26


/-
  R26Q: what solve finds is the least of what can be derived.
-/
namespace Go.GB.C26
open Go.GB
set_option linter.unusedSimpArgs false
set_option linter.unusedVariables false
set_option maxRecDepth 100000

def vR (F : List (Str × Int)) (A : List Int) : Nat ⊕ Str → Int
  | .inl g => A.getD g 0
  | .inr f => (kget f F).getD 0
def fsR (n : Nat) (js : List Join) : List (Nat ⊕ Str) := (List.range n).map .inl ++ js.map (fun j => .inr j.field)

section
variable {n : Nat} {sp : List Spot} {js : List Join} {ks : List KeyO} {F : List (Str × Int)} {A : List Int}

/-- the numbers while they are looked for -/
structure InvR (n : Nat) (sp : List Spot) (js : List Join) (ks : List KeyO) (F : List (Str × Int)) (A : List Int) : Prop where
  bd : Bd (fsR n js) (vR F A)
  la : n ≤ A.length
  sA : ∀ (g : Nat) d, Q (A.getD g 0) d → Der n sp js ks (.a g) d
  sF : ∀ f d, Q ((kget f F).getD 0) d → Der n sp js ks (.l f) d
  ss : ∀ x, x ∈ sp → Q (A.getD x.graph.toNat 0) x.depth

end
end Go.GB.C26


/-
  R26S: what fill finds is the least of what can be derived.
-/
namespace Go.GB.C26
open Go.GB
set_option linter.unusedSimpArgs false
set_option linter.unusedVariables false
set_option maxRecDepth 100000

def vT (D A : List Int) : Nat ⊕ Nat → Int
  | .inl g => A.getD g 0
  | .inr i => D.getD i 0
theorem getD_set {A : List Int} {i : Nat} {x : Int} (hi : i < A.length) (g : Nat) : (A.set i x).getD g 0 = if g = i then x else A.getD g 0 := by
  simp only [List.getD_eq_getElem?_getD, List.getElem?_set]
  by_cases h : i = g
  · subst h; simp [hi]
  · have : ¬ g = i := fun e => h e.symm
    simp [h, this]
def fsT (n : Nat) (js : List Join) : List (Nat ⊕ Nat) := (List.range n).map .inl ++ (List.range js.length).map .inr

section
variable {n : Nat} {sp : List Spot} {js : List Join} {ks : List KeyO} {D A : List Int}

/-- what the level of a field follows from -/
def LvT (n : Nat) (js : List Join) (D A : List Int) (f : Str) (d : Int) : Prop :=
  if f = tyN then ∃ g, g < n ∧ Q (A.getD g 0) d else ∃ k j, js[k]? = some j ∧ j.field = f ∧ Q (D.getD k 0) d
theorem LvT.le {B : Int} (hB : ∀ i, vT D A i ≤ B) {f : Str} {d : Int} (h : LvT n js D A f d) : LvT n js D A f B := by
  simp only [LvT] at h ⊢
  split at h
  · rw [if_pos ‹_›]; obtain ⟨g, a, b⟩ := h; exact ⟨g, a, b.1, hB (.inl g)⟩
  · rw [if_neg ‹_›]; obtain ⟨g, j, a, c, b⟩ := h; exact ⟨g, j, a, c, b.1, hB (.inr g)⟩
/-- what the number of a graph follows from -/
def GrT (n : Nat) (js : List Join) (ks : List KeyO) (sp : List Spot) (D A : List Int) (g : Int) (d : Int) : Prop :=
  (∃ x, x ∈ sp ∧ x.graph = g ∧ x.depth ≤ d) ∨ ∃ k, k ∈ ks ∧ k.graph = g ∧ k.fields ≠ [] ∧ ∀ f, f ∈ k.fields → LvT n js D A f (d - 1)
/-- what the number of a join follows from -/
def JnT (n : Nat) (js : List Join) (ks : List KeyO) (sp : List Spot) (D A : List Int) (j : Join) (d : Int) : Prop :=
  (j.ext = true ∧ ∃ x, x ∈ sp ∧ x.graph = j.graph ∧ j.field ∈ x.prov ∧ x.depth ≤ d) ∨
  (j.ext = false ∧ j.req = [] ∧ GrT n js ks sp D A j.graph d) ∨
  (j.ext = false ∧ j.req ≠ [] ∧ (∃ k, k ∈ ks ∧ k.graph = j.graph ∧ k.fields ≠ [] ∧ ∀ f, f ∈ k.fields → LvT n js D A f (d - 1)) ∧ ∀ f, f ∈ j.req → LvT n js D A f (d - 1))
/-- b says at least as much as a -/
def Dn (a b : List Int) : Prop := ∀ i d, Q (a.getD i 0) d → Q (b.getD i 0) d
theorem Dn.refl (a : List Int) : Dn a a := fun _ _ h => h
theorem LvT.mono {D' A' : List Int} (hD : Dn D D') (hA : Dn A A') {f : Str} {d e : Int} (he : d ≤ e) (h : LvT n js D A f d) : LvT n js D' A' f e := by
  simp only [LvT] at h ⊢
  split at h
  · rw [if_pos ‹_›]; obtain ⟨g, a, b⟩ := h; exact ⟨g, a, (hA _ _ b).mono he⟩
  · rw [if_neg ‹_›]; obtain ⟨g, j, a, c, b⟩ := h; exact ⟨g, j, a, c, (hD _ _ b).mono he⟩
theorem GrT.mono {D' A' : List Int} (hD : Dn D D') (hA : Dn A A') {g : Int} {d e : Int} (he : d ≤ e) (h : GrT n js ks sp D A g d) : GrT n js ks sp D' A' g e := by
  rcases h with ⟨x, a, b, c⟩ | ⟨k, a, b, c, f⟩
  · exact Or.inl ⟨x, a, b, by omega⟩
  · exact Or.inr ⟨k, a, b, c, fun x hx => (f x hx).mono hD hA (by omega)⟩
theorem JnT.mono {D' A' : List Int} (hD : Dn D D') (hA : Dn A A') {j : Join} {d e : Int} (he : d ≤ e) (h : JnT n js ks sp D A j d) : JnT n js ks sp D' A' j e := by
  rcases h with ⟨a, x, b, c, f, g⟩ | ⟨a, b, c⟩ | ⟨a, b, ⟨k, c, f, g, h⟩, h'⟩
  · exact Or.inl ⟨a, x, b, c, f, by omega⟩
  · exact Or.inr (Or.inl ⟨a, b, c.mono hD hA he⟩)
  · exact Or.inr (Or.inr ⟨a, b, ⟨k, c, f, g, fun x hx => (h x hx).mono hD hA (by omega)⟩, fun x hx => (h' x hx).mono hD hA (by omega)⟩)
theorem Dn.set {a : List Int} {i : Nat} {x : Int} (hi : i < a.length) (h : ∀ d, Q (a.getD i 0) d → Q x d) : Dn a (a.set i x) := by
  intro k d hq
  rw [getD_set hi]
  by_cases e : k = i
  · rw [if_pos e]; rw [e] at hq; exact h d hq
  · rw [if_neg e]; exact hq

/-- the reference's numbers while they are looked for -/
structure InvT (n : Nat) (sp : List Spot) (js : List Join) (ks : List KeyO) (D A : List Int) : Prop where
  bd : Bd (fsT n js) (vT D A)
  ld : D.length = js.length
  la : A.length = n
  sA : ∀ (g : Nat) d, Q (A.getD g 0) d → Der n sp js ks (.a g) d
  sD : ∀ i j, js[i]? = some j → ∀ d, Q (D.getD i 0) d → Der n sp js ks (.j j) d
  dA : ∀ (g : Nat) d, Q (A.getD g 0) d → GrT n js ks sp D A g d
  dD : ∀ i j, js[i]? = some j → ∀ d, Q (D.getD i 0) d → JnT n js ks sp D A j d

end
end Go.GB.C26


/-
  R26U: both texts take the same joins, keys and spots; solve and fill end.
-/
namespace Go.GB.C26
open Go.GB
set_option linter.unusedSimpArgs false
set_option linter.unusedVariables false
set_option maxRecDepth 100000

/-- the sizes -/
structure Small (s : Super) (here : List Spot) : Prop where
  g : s.graphs.length ≤ 10
  j : s.joins.length ≤ 120
  k : s.keys.length ≤ 60
  h : here.length ≤ 100
  jr : ∀ j, j ∈ s.joins → j.req.length ≤ 10 ∧ j.prov.length ≤ 10
  kf : ∀ k, k ∈ s.keys → k.fields.length ≤ 10
  ho : ∀ x, x ∈ here → x.ok

end Go.GB.C26


/-
  N29K: chapter 29: the example.
-/
namespace Go.GB.C29
open Go.GB Go.GB.C26
set_option linter.unusedSimpArgs false
set_option linter.unusedVariables false
set_option maxRecDepth 100000
set_option maxHeartbeats 16000000
variable {P : Program}
def nameS : Str := [110, 97, 109, 101]
def meS : Str := [109, 101]
def queryS : Str := [81, 117, 101, 114, 121]
def userS : Str := [85, 115, 101, 114]
def stringS : Str := [83, 116, 114, 105, 110, 103]
def exD : List Def := [{ kind := 1, name := queryS, implements := [], dirs := [], fields := [⟨meS, [], ⟨userS, []⟩, []⟩], members := [], inputs := [] }, { kind := 1, name := userS, implements := [], dirs := [], fields := [⟨nameS, [], ⟨stringS, []⟩, []⟩], members := [], inputs := [] }]
def exS : Super := ⟨[[97]], .lst (exD.map Def.enc), [], [⟨queryS, meS, 0, false, [], []⟩, ⟨userS, nameS, 0, false, [], []⟩]⟩
def exX : Pick := .mk nameS userS nameS [] ⟨stringS, []⟩ [] (-1) []
def exY : Pick := .mk meS queryS meS [] ⟨userS, []⟩ [] (-1) [exX]
theorem example_ok (H : Pr29 P) : FnOk P 9 [] ⟨[], 0⟩ { v := .tup [exS.v, .agg [.t (.int .i64 1), .t (.lst ([exY].map Pick.enc))]] } := by
  refine FnOk.run H.i9 H.mixed rfl rfl ?_
  refine Run.fast (f := 57) rfl (by (repeat' (first | exact trivial | exact Bool.not_or_self _ | exact grd1 _ | exact grd2 _ | exact grd3 _ _ | exact grd4 _ _ | refine And.intro ?_ ?_ | exact rfl | (simp; done) | (simp <;> omega))); done) ?_
  refine Mid.bslP rfl rfl rfl ?_
  refine fM rfl ?_
  refine Run.fin rfl (EndOk.go ?_)
  exact .tup2 (.agg (.cons (.own rfl) (.cons (.own rfl) (.cons (.nil rfl) (.cons (.own rfl) .nil))))) (.agg (.cons (.t rfl) (.cons (.t rfl) .nil)))
def one : List Spot := [⟨0, 1, []⟩]
def jQ : Join := ⟨queryS, meS, 0, false, [], []⟩
def jU : Join := ⟨userS, nameS, 0, false, [], []⟩
def z8 : List Int := [0, 0, 0, 0, 0, 0, 0, 0]
def o8 : List Int := [1, 0, 0, 0, 0, 0, 0, 0]
theorem nok (sp : List Spot) (js : List Join) (A : List Int) (hA : A.length = 8) (hsp : sp = [] ∨ sp = one) (hj : js = [] ∨ js = [jQ] ∨ js = [jU]) : NOk exS sp js [] 1 A := by
  refine ⟨by decide, by decide, hA, ?_, ?_, by decide, ?_, ?_, by simp⟩
  · rcases hsp with rfl | rfl <;> decide
  · rcases hj with rfl | rfl | rfl <;> decide
  · rcases hsp with rfl | rfl <;> simp [one, Spot.ok]
  · rcases hj with rfl | rfl | rfl <;> simp [jQ, jU, Join.ok]
theorem sol_q1 : Sol exS queryS one one [jQ] [] [(meS, 1)] o8 :=
  ⟨by decide, by decide, by decide, by decide, by rfl, by rfl, ⟨o8, 3, by rfl, nok _ _ _ rfl (.inr rfl) (.inr (.inl rfl)), fun _ h => absurd h (by decide), by rfl⟩, nok _ _ _ rfl (.inr rfl) (.inr (.inl rfl))⟩
theorem sol_u1 : Sol exS userS one one [jU] [] [(nameS, 1)] o8 :=
  ⟨by decide, by decide, by decide, by decide, by rfl, by rfl, ⟨o8, 3, by rfl, nok _ _ _ rfl (.inr rfl) (.inr (.inr rfl)), fun _ h => absurd h (by decide), by rfl⟩, nok _ _ _ rfl (.inr rfl) (.inr (.inr rfl))⟩
theorem sol_q0 : Sol exS queryS [] [] [jQ] [] [] z8 :=
  ⟨by decide, by decide, by decide, by decide, by rfl, by rfl, ⟨z8, 3, by rfl, nok _ _ _ rfl (.inl rfl) (.inr (.inl rfl)), fun h => absurd h (by decide), by rfl⟩, nok _ _ _ rfl (.inl rfl) (.inr (.inl rfl))⟩
theorem sol_u0 : Sol exS userS [] [] [jU] [] [] z8 :=
  ⟨by decide, by decide, by decide, by decide, by rfl, by rfl, ⟨z8, 3, by rfl, nok _ _ _ rfl (.inl rfl) (.inr (.inr rfl)), fun h => absurd h (by decide), by rfl⟩, nok _ _ _ rfl (.inl rfl) (.inr (.inr rfl))⟩
theorem joins_e {ty : Str} (h1 : ty ≠ queryS) (h2 : ty ≠ userS) : joins0 exS.graphs.length ty exS.joins [] [] = [] := by
  have e1 : ¬ queryS = ty := fun e => h1 e.symm
  have e2 : ¬ userS = ty := fun e => h2 e.symm
  simp [exS, joins0, inj, e1, e2]
theorem keys_e (ty : Str) : keys0 exS.graphs.length ty exS.keys [] = [] := rfl
theorem sol_e1 {ty : Str} (h1 : ty ≠ queryS) (h2 : ty ≠ userS) : Sol exS ty one one [] [] [] o8 :=
  ⟨by decide, by decide, by decide, by decide, joins_e h1 h2, keys_e ty, ⟨o8, 3, by rfl, nok _ _ _ rfl (.inr rfl) (.inl rfl), fun h => absurd h (by decide), by rfl⟩, nok _ _ _ rfl (.inr rfl) (.inl rfl)⟩
theorem sol_e0 {ty : Str} (h1 : ty ≠ queryS) (h2 : ty ≠ userS) : Sol exS ty [] [] [] [] [] z8 :=
  ⟨by decide, by decide, by decide, by decide, joins_e h1 h2, keys_e ty, ⟨z8, 3, by rfl, nok _ _ _ rfl (.inl rfl) (.inl rfl), fun h => absurd h (by decide), by rfl⟩, nok _ _ _ rfl (.inl rfl) (.inl rfl)⟩
def exG (h : List Spot) : Prop := h = [] ∨ h = one
def exC (ty : Str) (here : List Spot) (f : Str) : Bool := !here.isEmpty && ((ty == queryS && f == meS) || (ty == userS && f == nameS))
def exCh (ty : Str) (here : List Spot) (f : Str) : List Spot := if exC ty here f then one else []
def exLv (ty : Str) (here : List Spot) (f : Str) : Int := if here.isEmpty then 0 else if f = tyN then 1 else if exC ty here f then 1 else 0
theorem ex_all (ty : Str) (here : List Spot) (f : Str) (h : exG here) : ∃ sp js ks F A, Sol exS ty here sp js ks F A ∧ js.length ≤ 1000 ∧ childG exS.graphs.length sp js ks F A f 0 exS.graphs.length [] = exCh ty here f ∧ levelP exS.graphs.length F A f = exLv ty here f := by
  have hqu : queryS ≠ userS := by decide
  rcases h with rfl | rfl
  · have e1 : exCh ty [] f = [] := by simp [exCh, exC]
    have e2 : exLv ty [] f = 0 := by simp [exLv]
    rw [e1, e2]
    by_cases h1 : ty = queryS
    · subst h1
      refine ⟨_, _, _, _, _, sol_q0, by decide, ?_, ?_⟩
      · by_cases hf : f = meS
        · subst hf; rfl
        · have hf2 : ¬ meS = f := fun e => hf e.symm
          simp [childG, childP, jQ, hf2, exS]
      · simp [levelP, kget, z8, exS]; exact fun _ => rfl
    · by_cases h2 : ty = userS
      · subst h2
        refine ⟨_, _, _, _, _, sol_u0, by decide, ?_, ?_⟩
        · by_cases hf : f = nameS
          · subst hf; rfl
          · have hf2 : ¬ nameS = f := fun e => hf e.symm
            simp [childG, childP, jU, hf2, exS]
        · simp [levelP, kget, z8, exS]; exact fun _ => rfl
      · exact ⟨_, _, _, _, _, sol_e0 h1 h2, by decide, by simp [childG, childP, exS], by simp [levelP, kget, z8, exS]; exact fun _ => rfl⟩
  · by_cases h1 : ty = queryS
    · subst h1
      by_cases hf : f = meS
      · subst hf
        exact ⟨_, _, _, _, _, sol_q1, by decide, by rfl, by rfl⟩
      · have hf2 : ¬ meS = f := fun e => hf e.symm
        have ec : exC queryS one f = false := by simp [exC, one, hf, hqu]
        refine ⟨_, _, _, _, _, sol_q1, by decide, ?_, ?_⟩
        · simp [exCh, ec, childG, childP, jQ, hf2, exS]
        · by_cases ht : f = tyN
          · subst ht; rfl
          · simp [exLv, ec, levelP, kget, o8, exS, hf, ht]
    · by_cases h2 : ty = userS
      · subst h2
        by_cases hf : f = nameS
        · subst hf
          exact ⟨_, _, _, _, _, sol_u1, by decide, by rfl, by rfl⟩
        · have hf2 : ¬ nameS = f := fun e => hf e.symm
          have ec : exC userS one f = false := by simp [exC, one, hf, h1]
          refine ⟨_, _, _, _, _, sol_u1, by decide, ?_, ?_⟩
          · simp [exCh, ec, childG, childP, jU, hf2, exS]
          · by_cases ht : f = tyN
            · subst ht; rfl
            · simp [exLv, ec, levelP, kget, o8, exS, hf, ht]
      · have ec : exC ty one f = false := by simp [exC, h1, h2]
        exact ⟨_, _, _, _, _, sol_e1 h1 h2, by decide, by simp [exCh, ec, childG, childP, exS], by
          by_cases ht : f = tyN
          · subst ht; simp [exLv, one, levelP, kget, o8, exS]; rfl
          · simp [exLv, ec, levelP, kget, o8, exS, ht]⟩
theorem exCh_or (ty : Str) (here : List Spot) (f : Str) : exCh ty here f = [] ∨ exCh ty here f = one := by unfold exCh; split <;> simp
theorem good_or (s : Super) (t : Str) {l : List Spot} (h : exG l) : exG (good s t l) := by
  rcases h with rfl | rfl
  · exact .inl rfl
  · unfold good one
    simp only [List.filter_cons, List.filter_nil]
    split
    · exact .inr rfl
    · exact .inl rfl
theorem exD_ok : DocOk exD := by
  refine ⟨by decide, ?_, by decide⟩
  intro y hy
  simp only [exD, List.mem_cons, List.not_mem_nil, or_false] at hy
  rcases hy with rfl | rfl
  all_goals
    refine ⟨by decide, by decide, by simp, by decide, ?_, by decide, by simp, by decide, by simp, by decide, by decide⟩
    intro f hf
    simp only [List.mem_cons, List.not_mem_nil, or_false] at hf
    subst hf
    exact ⟨by decide, by simp, ⟨by decide, by decide⟩, by decide, by simp, by decide⟩
theorem ex_env : Env exS exD exG exCh where
  doc := rfl
  docOk := exD_ok
  js := by decide
  ok := fun ty here f h => by
    obtain ⟨sp, js, ks, F, A, a, b, c, _⟩ := ex_all ty here f h
    exact ⟨sp, js, ks, F, A, a, b, c⟩
  cl := fun ty here f t _ => good_or _ _ (exCh_or ty here f)
  len := fun ty here f _ => by rcases exCh_or ty here f with h | h <;> rw [h] <;> decide
theorem ex_lv : EnvL exS exG exLv where
  ok := fun ty here f h => by
    obtain ⟨sp, js, ks, F, A, a, _, _, c⟩ := ex_all ty here f h
    exact ⟨sp, js, ks, F, A, a, c⟩
end Go.GB.C29


/-
  N29L: chapter 29: the example holds; the law of paths.
-/
namespace Go.GB.C29
open Go.GB Go.GB.C26
set_option linter.unusedSimpArgs false
set_option linter.unusedVariables false
set_option maxRecDepth 100000
set_option maxHeartbeats 16000000
variable {P : Program}
def exL : List Place := [⟨-1, ⟨[], []⟩, queryS, one, [exY]⟩, ⟨0, ⟨queryS, meS⟩, userS, one, [exX]⟩]
theorem ex_places : placesF exS exD exCh 1 [exY] = exL := by rfl
theorem ex_depth : depL exLv exL 0 = some 1 := by rfl
theorem ex_path : pathF exL 1 = [⟨queryS, meS⟩] := by rfl
theorem exX_ok : exX.Ok := .mk (by decide) (by simp) ⟨by decide, by decide⟩ (by decide) (by simp)
theorem exY_ok : exY.Ok := .mk (by decide) (by simp) ⟨by decide, by decide⟩ (by decide) (by intro x hx; simp at hx; subst hx; exact exX_ok)
theorem exampleHolds_ok (H : Pr29 P) : FnOk P 4 [] ⟨[], 0⟩ { v := .t (.bool true) } := by
  have hy : ∀ x, x ∈ [exY] → x.Ok := by intro x hx; simp at hx; subst hx; exact exY_ok
  have h1 := places_ok H ex_env 1 [exY] (by decide) hy (.inr rfl) (by decide) (by rw [ex_places]; decide)
  have h2 := depth_ok H ex_env ex_lv 1 [exY] (by decide) hy (.inr rfl) (by decide) (by rw [ex_places]; decide) (by rw [ex_places]; intro p hp; simp only [exL, List.mem_cons, List.not_mem_nil, or_false] at hp; rcases hp with rfl | rfl <;> exact ⟨.inr rfl, by decide⟩)
  rw [ex_places] at h1 h2
  rw [ex_depth] at h2
  have h3 := path_ok H exL (by decide) 1
  rw [ex_path] at h3
  refine FnOk.run H.i4 H.mixed rfl rfl ?_
  refine fR rfl ?_
  refine Mid.call (example_ok H) rfl rfl rfl rfl ?_
  refine fM rfl ?_
  refine Mid.call (h1) rfl rfl rfl rfl ?_
  refine fM rfl ?_
  refine Mid.call (h2) rfl rfl rfl rfl ?_
  refine fM rfl ?_
  refine lM rfl rfl rfl ?_
  refine fM rfl ?_
  refine gr rfl ?_
  refine fM rfl ?_
  refine lMG rfl rfl rfl rfl ?_
  refine fM rfl ?_
  refine gr rfl ?_
  refine fM rfl ?_
  refine lMG rfl rfl rfl rfl ?_
  refine fM rfl ?_
  refine gr rfl ?_
  refine fM rfl ?_
  refine lMG rfl rfl rfl rfl ?_
  refine fM rfl ?_
  refine Run.condF rfl rfl rfl ?_
  refine fR rfl ?_
  refine Mid.call (h3) rfl rfl rfl rfl ?_
  refine fM rfl ?_
  refine pu rfl ?_
  refine fM rfl ?_
  refine gr rfl ?_
  refine fM rfl ?_
  refine gr rfl ?_
  refine fM rfl ?_
  refine lMG rfl rfl rfl rfl ?_
  refine fM rfl ?_
  refine gr rfl ?_
  refine fM rfl ?_
  refine gr rfl ?_
  refine fM rfl ?_
  refine Run.fin rfl (EndOk.go ?_); exact .t rfl
theorem upF_len (l : List Place) : ∀ (k n : Nat) (acc h : List Hop), upF l k n acc = some h → h.length ≤ acc.length + n
  | 0, n, acc, h, e => by simp [upF] at e
  | k + 1, n, acc, h, e => by
    simp only [upF] at e
    cases hp : l[n]? with
    | none => rw [hp] at e; cases e
    | some p =>
      rw [hp] at e
      simp only at e
      split at e
      · simp only [Option.some.injEq] at e; subst e; omega
      · split at e
        · cases e
        · have := upF_len l k _ _ h e
          simp only [List.length_append, List.length_cons, List.length_nil] at this
          omega
theorem pathF_len (l : List Place) (i : Int) : (pathF l i).length ≤ l.length := by
  unfold pathF
  split
  · simp
  · rename_i h
    cases e : upF l (i.toNat + 1) i.toNat [] with
    | none => simp
    | some h2 =>
      have := upF_len l _ _ _ _ e
      simp at this ⊢
      omega
theorem law_paths (H : Pr29 P) (l : List Place) (hl : l.length * 104 ≤ 140737488355328) (i : Int) : FnOk P 3 [.t (.lst (l.map Place.enc)), .t (.int .i64 i)] ⟨[], 0⟩ { v := .t (.bool true) } := by
  by_cases hb : l.length > 200
  · refine FnOk.run H.i3 H.mixed rfl rfl ?_
    refine fR rfl ?_
    refine lM rfl rfl rfl ?_
    refine fM rfl ?_
    refine Run.condT rfl rfl (by simp; omega) ?_
    refine fR rfl ?_
    refine Mid.call (exampleHolds_ok H) rfl rfl rfl rfl ?_
    refine fM rfl ?_
    refine Run.fin rfl (EndOk.go ?_); exact .t rfl
  have hpl : (pathF l i).length ≤ 140737488355328 := by have := pathF_len l i; omega
  refine FnOk.run H.i3 H.mixed rfl rfl ?_
  refine fR rfl ?_
  refine lM rfl rfl rfl ?_
  refine fM rfl ?_
  refine Run.condF rfl rfl (by simp; omega) ?_
  refine fR rfl ?_
  refine Mid.call (path_ok H l (by omega) i) rfl rfl rfl rfl ?_
  refine fM rfl ?_
  refine Mid.call (to_ok H l (by omega)) rfl rfl rfl rfl ?_
  refine fM rfl ?_
  refine Mid.call (rpath_ok H l (by omega) i) rfl rfl rfl rfl ?_
  skip
  refine Mid.call (sameHops_ok H (pathF l i) hpl) rfl rfl rfl rfl ?_
  refine fM rfl ?_
  refine caG rfl rfl (fun hg => ⟨_, rfl, exampleHolds_ok H, rfl⟩) rfl rfl ?_
  refine fM rfl ?_
  refine Run.fin rfl (EndOk.go ?_); exact .t rfl
end Go.GB.C29


/-
  N29M: chapter 29: shapes of the laws' arguments.
-/
namespace Go.GB.C29
open Go.GB
set_option linter.unusedSimpArgs false
set_option linter.unusedVariables false
theorem int_0 {c : List T} (h : Sh.oks YA [.int .i64] c) : ∃ n : Int, c = [.int .i64 n] ∧ -9223372036854775808 ≤ n ∧ n ≤ 9223372036854775807 := by
  obtain ⟨x, c, rfl, ⟨n, rfl, hw⟩, g1⟩ := Sh.oks_cons h
  obtain rfl := Sh.oks_nil g1
  refine ⟨n, rfl, ?_⟩
  have h1 : IntKind.i64.min = -9223372036854775808 := by decide
  have h2 : IntKind.i64.max = 9223372036854775807 := by decide
  simp [Lit.wf, h1, h2] at hw
  omega
def spotSh : List Sh := [.int .i64, .int .i64, .lst 16 [.str]]
def placeSh : List Sh := [.int .i64, .str, .str, .str, .lst 40 spotSh, .num 1]
theorem spot_sh {c : List T} (h : Sh.oks YA spotSh c) : ∃ x : C26.Spot, c = x.enc ∧ True := by
  obtain ⟨x1, c, rfl, ⟨g, rfl, _⟩, h1⟩ := Sh.oks_cons h
  obtain ⟨x2, c, rfl, ⟨d, rfl, _⟩, h2⟩ := Sh.oks_cons h1
  obtain ⟨x3, c, rfl, h3, h4⟩ := Sh.oks_cons h2
  obtain ⟨l, rfl, _⟩ := strs_of h3
  obtain rfl := Sh.oks_nil h4
  exact ⟨⟨g, d, l⟩, rfl, trivial⟩
theorem place_sh {c : List T} (h : Sh.oks YA placeSh c) : ∃ p : Place, c = p.enc ∧ True := by
  obtain ⟨x1, c, rfl, ⟨n, rfl, _⟩, h1⟩ := Sh.oks_cons h
  obtain ⟨x2, c, rfl, ⟨a, rfl, _⟩, h2⟩ := Sh.oks_cons h1
  obtain ⟨x3, c, rfl, ⟨b, rfl, _⟩, h3⟩ := Sh.oks_cons h2
  obtain ⟨x4, c, rfl, ⟨t, rfl, _⟩, h4⟩ := Sh.oks_cons h3
  obtain ⟨x5, c, rfl, h5, h6⟩ := Sh.oks_cons h4
  obtain ⟨sp, rfl, _⟩ := list_of (fun c hc => spot_sh hc) h5
  obtain ⟨l, c, rfl, _, _, _, h7⟩ := picks_sh h6
  obtain rfl := Sh.oks_nil h7
  exact ⟨⟨n, ⟨a, b⟩, t, sp, l⟩, rfl, trivial⟩
theorem places_0 {c : List T} (h : Sh.oks YA [.lst 104 placeSh] c) : ∃ l : List Place, c = [.lst (l.map Place.enc)] ∧ l.length * 104 ≤ 140737488355328 := by
  have := reach_le
  obtain ⟨x, c, rfl, hx, g⟩ := Sh.oks_cons h
  obtain rfl := Sh.oks_nil g
  obtain ⟨l, rfl, h1, _⟩ := list_of (fun c hc => place_sh hc) hx
  exact ⟨l, rfl, by omega⟩
end Go.GB.C29

