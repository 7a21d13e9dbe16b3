/-
  D52F: chapter 52's plain law: both texts agree; what is in effect changes at the next time at the earliest.
-/
import Derived.Test.YticfklecmdjklaaD52E
namespace Go.GB.C52
open Go.GB
set_option linter.unusedSimpArgs false
set_option linter.unusedVariables false

theorem nmCh_eq (c : Int) : nmCh c = (letter c || digit c) := by
  rw [Bool.eq_iff_iff]; simp [nmCh, letter, digit]; omega
theorem nameL_eq : ∀ (r : List UInt8) (i : Nat), nameL (i + 1) r = nameT r
  | [], i => rfl
  | c :: r, i => by
    have h0 : (((i + 1 : Nat) : Int) == 0) = false := by simp; omega
    simp only [nameL, nameT, nmCh_eq, h0, Bool.false_or, nameL_eq r (i + 1)]
    cases letter c.toNat <;> cases digit c.toNat <;> rfl
theorem refName_eq (s : List UInt8) : refName s = textName s := by
  cases s with
  | nil => rfl
  | cons a t =>
    have hd : (decide ((a.toNat : Int) ≥ 48) && decide ((a.toNat : Int) ≤ 57)) = digit a.toNat := rfl
    have h0 : (((0 : Nat) : Int) == 0) = true := rfl
    simp only [refName, textName, hd, nameL, nameT, h0, Bool.true_or, Bool.and_true, nameL_eq, nmCh_eq]
    by_cases hl : (a :: t).length > 64
    · have h1 : ((a :: t).length < 1 ∨ (a :: t).length > 64) := .inr hl
      have h2 : decide ((((a :: t).length : Nat) : Int) > 64) = true := by simp at hl ⊢; omega
      simp only [h1, if_true, h2, Bool.or_true, Bool.true_or]
    · have h1 : ¬ ((a :: t).length < 1 ∨ (a :: t).length > 64) := by simp at hl ⊢; omega
      have h2 : decide ((((a :: t).length : Nat) : Int) > 64) = false := by simp at hl ⊢; omega
      have h3 : (a :: t == ([] : List UInt8)) = false := rfl
      simp only [h1, if_false, h2, h3, Bool.false_or]
      have hx : letter a.toNat = true → digit a.toNat = false := by
        simp only [letter, digit]; simp; omega
      cases hl : letter a.toNat with
      | true => simp [hx hl]
      | false => cases digit a.toNat <;> simp

theorem pairL_eq (s : List UInt8) : ∀ (r : List UInt8) (i : Nat),
    pairL s i r = if Lib.indexByte r 46 ≥ 0 then refName (s.take (i + (Lib.indexByte r 46).toNat)) && refName (s.drop (i + (Lib.indexByte r 46).toNat + 1)) else false
  | [], i => by simp [pairL, Lib.indexByte]
  | c :: r, i => by
    have hr := (index_range 46 r).1
    simp only [pairL, Lib.indexByte]
    by_cases hc : c = 46
    · subst hc
      simp
    · have h1 : ((c.toNat : Int) == 46) = false := by
        simp
        intro h
        apply hc
        have : c.toNat = 46 := by omega
        exact UInt8.toNat.inj this
      have h2 : (c == 46) = false := by simpa using hc
      simp only [h1, h2, Bool.false_eq_true, if_false, pairL_eq s r (i + 1)]
      by_cases hm : Lib.indexByte r 46 = -1
      · simp [hm]
      · have h3 : (Lib.indexByte r 46 == -1) = false := by simpa using hm
        have h4 : (Lib.indexByte r 46 + 1).toNat = (Lib.indexByte r 46).toNat + 1 := by omega
        have h5 : Lib.indexByte r 46 ≥ 0 := by omega
        have h6 : Lib.indexByte r 46 + 1 ≥ 0 := by omega
        have h7 : i + 1 + (Lib.indexByte r 46).toNat = i + ((Lib.indexByte r 46).toNat + 1) := by omega
        simp only [h3, Bool.false_eq_true, if_false, h5, h6, if_true, h4, h7]
theorem pair_eq (s : List UInt8) : pair s = ((cut1 s 46).2.2 && textName (cut1 s 46).1 && textName (cut1 s 46).2.1) := by
  simp only [pair, pairL_eq, cut1, Nat.zero_add, refName_eq]
  by_cases h : Lib.indexByte s 46 ≥ 0
  · simp [h]
  · simp [h]
theorem right_eq (b : Beh) : rightP b = rightR b := by
  simp only [rightP, rightR, pair_eq, Bool.and_assoc]
theorem right_eq' : rightP = rightR := funext right_eq
theorem eff_eq (k g now : Int) : effP k g now = effR k g now := by
  funext b; simp only [effP, effR, right_eq]

theorem any_filter (p : Beh → Bool) (l : List Beh) : decide (((l.filter p).length : Int) > 0) = l.any p := by
  rw [Bool.eq_iff_iff]
  simp only [decide_eq_true_eq, List.any_eq_true]
  constructor
  · intro h
    have : 0 < (l.filter p).length := by omega
    obtain ⟨x, hx⟩ := List.exists_mem_of_length_pos this
    rw [List.mem_filter] at hx
    exact ⟨x, hx⟩
  · rintro ⟨x, hx⟩
    have : x ∈ l.filter p := List.mem_filter.2 hx
    have := List.length_pos_of_mem this
    omega
theorem idxF_any (q : Beh → Bool) : ∀ (l : List Beh) (i : Nat), decide (idxF q i l ≥ 0) = l.any q
  | [], i => by simp [idxF]
  | b :: r, i => by
    simp only [idxF, List.any_cons]
    by_cases h : q b = true
    · simp [h]
    · rw [Bool.not_eq_true] at h
      simp only [h]
      simp only [Bool.false_eq_true, if_false, Bool.false_or]; exact idxF_any q r (i + 1)
theorem fails_any (p q : Beh → Bool) (l : List Beh) : decide (idxF q 0 (l.filter p) ≥ 0) = l.any fun b => p b && q b := by
  rw [idxF_any, List.any_filter]

/-- what Next hands back -/
structure NextIs (now : Int) (ts : List Int) (a : Int × Bool) : Prop where
  pos : a.2 = true → a.1 > now ∧ a.1 ∈ ts ∧ ∀ t ∈ ts, t > now → a.1 ≤ t
  neg : a.2 = false → ∀ t ∈ ts, ¬ t > now
theorem NextIs.nx {now t : Int} {ts : List Int} {a : Int × Bool} (h : NextIs now ts a) : NextIs now (ts ++ [t]) (nx now t a) := by
  obtain ⟨n, ok⟩ := a
  unfold Go.GB.C52.nx
  cases ok with
  | false =>
    have h2 := h.neg rfl
    by_cases ht : t > now
    · simp only [ht, decide_true, Bool.not_false, Bool.true_or, Bool.and_self, if_true]
      refine ⟨fun _ => ⟨ht, by simp, fun x hx hx2 => ?_⟩, fun h => by cases h⟩
      rcases List.mem_append.1 hx with hx | hx
      · exact absurd hx2 (h2 x hx)
      · simp at hx; subst hx; exact Int.le_refl _
    · simp only [ht, decide_false, Bool.false_and, Bool.false_eq_true, if_false]
      refine ⟨fun h => (by cases h), fun _ x hx => ?_⟩
      rcases List.mem_append.1 hx with hx | hx
      · exact h2 x hx
      · simp at hx; subst hx; exact ht
  | true =>
    obtain ⟨h1, h2, h3⟩ := h.pos rfl
    simp only at h1 h2 h3
    by_cases hc : t > now ∧ t < n
    · simp only [hc.1, hc.2, decide_true, Bool.not_true, Bool.or_true, Bool.and_self, if_true]
      refine ⟨fun _ => ⟨hc.1, by simp, fun x hx hx2 => ?_⟩, fun h => by cases h⟩
      rcases List.mem_append.1 hx with hx | hx
      · have := h3 x hx hx2; simp only; omega
      · simp at hx; subst hx; exact Int.le_refl _
    · have hf : (decide (t > now) && (!true || decide (t < n))) = false := by simp; omega
      simp only [hf, Bool.false_eq_true, if_false]
      refine ⟨fun _ => ⟨h1, by simp [h2], fun x hx hx2 => ?_⟩, fun h => by cases h⟩
      rcases List.mem_append.1 hx with hx | hx
      · exact h3 x hx hx2
      · simp at hx; subst hx; simp only; omega

def times (p : Beh → Bool) : List Beh → List Int
  | [] => []
  | b :: r => if p b then b.from_ :: b.to :: times p r else times p r
theorem nextL_is (p : Beh → Bool) (now : Int) : ∀ (l : List Beh) (ts : List Int) (a : Int × Bool), NextIs now ts a → NextIs now (ts ++ times p l) (nextL p now l a)
  | [], ts, a, h => by simpa [times, nextL] using h
  | b :: r, ts, a, h => by
    simp only [times, nextL]
    cases hp : p b with
    | false => simpa using nextL_is p now r ts a h
    | true =>
      have h1 := (h.nx (t := b.from_)).nx (t := b.to)
      have h2 := nextL_is p now r _ _ h1
      simpa using h2
theorem next_is (p : Beh → Bool) (now : Int) (l : List Beh) : NextIs now (times p l) (nextL p now l (0, false)) := by
  have := nextL_is p now l [] (0, false) ⟨fun h => (by cases h), fun _ t h => by simp at h⟩
  simpa using this
theorem times_mem {p : Beh → Bool} : ∀ {l : List Beh} {b : Beh}, b ∈ l → p b = true → b.from_ ∈ times p l ∧ b.to ∈ times p l
  | c :: r, b, h, hp => by
    simp only [times]
    rcases List.mem_cons.1 h with e | e
    · subst e; simp [hp]
    · have := times_mem e hp
      split
      · exact ⟨List.mem_cons_of_mem _ (List.mem_cons_of_mem _ this.1), List.mem_cons_of_mem _ (List.mem_cons_of_mem _ this.2)⟩
      · exact this

/-- ahead of the next time nothing changes -/
theorem eff_const {l : List Beh} {now later : Int} (hle : now ≤ later) (h : (nextL rightP now l (0, false)).2 = true → later < (nextL rightP now l (0, false)).1) (k g : Int) : l.filter (effP k g now) = l.filter (effP k g later) := by
  have hn := next_is rightP now l
  apply List.filter_congr
  intro b hb
  unfold effP
  cases hp : rightP b with
  | false => simp
  | true =>
    obtain ⟨m1, m2⟩ := times_mem hb hp
    have key : ∀ t ∈ times rightP l, t > now → later < t := by
      intro t ht h1
      cases hk : (nextL rightP now l (0, false)).2 with
      | true =>
        have := (hn.pos hk).2.2 t ht h1
        have := h hk
        omega
      | false => exact absurd h1 (hn.neg hk t ht)
    have k1 := key _ m1
    have k2 := key _ m2
    have e1 : decide (b.from_ ≤ now) = decide (b.from_ ≤ later) := by rw [decide_eq_decide]; omega
    have e2 : decide (now < b.to) = decide (later < b.to) := by rw [decide_eq_decide]; omega
    rw [e1, e2]

theorem lagF_le : ∀ (l : List Beh) (n : Int), n ≤ lagF n l
  | [], n => Int.le_refl _
  | b :: r, n => by
    have := lagF_le r (if b.n > n then b.n else n)
    have e : lagF n (b :: r) = lagF (if b.n > n then b.n else n) r := rfl
    rw [e]; split at this <;> split <;> omega
theorem lagF_max : ∀ (l : List Beh) (n m : Int), m ≤ n → lagF n l = if lagF m l > n then lagF m l else n
  | [], n, m, h => by
    have : ¬ lagF m [] > n := by have : lagF m [] = m := rfl; omega
    rw [if_neg this]; rfl
  | b :: r, n, m, h => by
    have e : ∀ n, lagF n (b :: r) = lagF (if b.n > n then b.n else n) r := fun _ => rfl
    have hl := lagF_le r (if b.n > m then b.n else m)
    rw [e, e, lagF_max r (if b.n > n then b.n else n) (if b.n > m then b.n else m) (by split <;> split <;> omega)]
    generalize lagF (if b.n > m then b.n else m) r = q at hl ⊢
    by_cases h1 : b.n > n
    · have h2 : b.n > m := by omega
      simp only [h1, h2, if_true] at hl ⊢
      split <;> split <;> omega
    · simp only [h1, if_false]
theorem lagF_two (a b : List Beh) : lagF 0 (a ++ b) = if lagF 0 b > lagF 0 a then lagF 0 b else lagF 0 a := by
  have : lagF 0 (a ++ b) = lagF (lagF 0 a) b := by simp [lagF, List.foldl_append]
  rw [this]; exact lagF_max b _ 0 (lagF_le a 0)

end Go.GB.C52
