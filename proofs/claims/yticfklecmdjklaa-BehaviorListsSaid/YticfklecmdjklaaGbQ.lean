/-
  GbQ: regions in the order of the text.
-/
import Derived.Test.YticfklecmdjklaaGbP
namespace Go.GB
section
variable {P : Program} {ops : Array Oper}

/-- a region evaluated: what each operation does -/
def Ch (P : Program) : Nat → St → List AO → List Out → Nat → St → Prop
  | base, st, [], [], b', s' => b' = base ∧ s' = st
  | base, st, ao :: r, out :: os, b', s' => evO P base st ao (· = out) ∧ Ch P (base + out.n) (st.app ao.dst out) r os b' s'
  | _, _, _, _, _, _ => False

def flags : List Out → List (Bool × Bool)
  | [] => []
  | o :: r => (o.rd, !o.ob.isEmpty || decide (0 < o.n)) :: flags r

theorem evR_chain : ∀ {aos : List AO} {base : Nat} {st : St} {fl : List (Bool × Bool)} {K : Nat → St → List (Bool × Bool) → Prop}, evR P base st aos fl K → ∃ outs b' st', Ch P base st aos outs b' st' ∧ K b' st' (fl ++ flags outs)
  | [], base, st, fl, K, h => ⟨[], base, st, ⟨rfl, rfl⟩, by simpa [flags, evR] using h⟩
  | ao :: r, base, st, fl, K, h => by
    obtain ⟨out, h1, h2⟩ := evO_step h
    obtain ⟨outs, b', st', h3, h4⟩ := evR_chain h2
    exact ⟨out :: outs, b', st', ⟨h1, h3⟩, by simpa [flags] using h4⟩

theorem Ch.le : ∀ {aos : List AO} {base : Nat} {st : St} {outs : List Out} {b' : Nat} {s' : St}, Ch P base st aos outs b' s' → base ≤ b'
  | [], _, _, [], _, _, h => by rw [h.1]; exact Nat.le_refl _
  | _ :: r, _, _, _ :: os, _, _, h => by have := Ch.le h.2; omega
  | [], _, _, _ :: _, _, _, h => h.elim
  | _ :: _, _, _, [], _, _, h => h.elim

/-- names of what an operation sets -/
def NmOk (base : Nat) (st : St) (out : Out) : Prop := ∀ k o, (k, o) ∈ out.ob → aget st.s.sto k ≠ none ∨ (base ≤ k ∧ k < base + out.n)

theorem evX_names {base : Nat} {st : St} {aop : AOp} {out : Out} (h : evX P base st (· = out) aop) : NmOk base st out := by
  unfold evX at h
  split at h
  · split at h
    · split at h
      · rename_i hk
        split at h
        · obtain ⟨_, rfl⟩ := h; intro j ob hj; simp at hj; rw [hj.1, hk]; exact .inl (by simp)
        · exact h.elim
      · exact h.elim
    · exact h.elim
  · split at h
    · obtain ⟨_, rfl⟩ := h; intro j ob hj; simp at hj; exact .inr (by simp; omega)
    · exact h.elim
  · subst h; intro j ob hj; simp at hj; exact .inr (by simp; omega)
  · split at h
    · obtain ⟨_, h⟩ := h
      split at h
      · subst h; intro j ob hj; simp at hj; exact .inr (by simp; omega)
      · subst h; intro j ob hj; simp at hj
    · exact h.elim
  · split at h
    · split at h
      · obtain ⟨_, _, _, rfl⟩ := h; intro j ob hj; simp at hj; exact .inr (by simp; omega)
      · split at h
        · rename_i hk
          obtain ⟨_, _, _, _, _, rfl⟩ := h; intro j ob hj; simp at hj; rw [hj.1, hk]; exact .inl (by simp)
        · exact h.elim
      · exact h.elim
    · exact h.elim
  · split at h
    · obtain ⟨_, rfl⟩ := h; intro j ob hj; simp at hj; exact .inr (by simp; omega)
    · exact h.elim
  · exact (FnEv_eq h).2.1
  · split at h
    · exact (FnEv_eq h).2.1
    · exact (FnEv_eq h).2.1
    · exact h.elim
  · exact h.elim

theorem evO_names {base : Nat} {st : St} {ao : AO} {out : Out} (h : evO P base st ao (· = out)) : NmOk base st out := by
  unfold evO at h
  split at h
  · unfold evU at h
    split at h
    · obtain ⟨_, rfl⟩ := h; intro j ob hj; simp at hj
    · exact evX_names h
  · split at h
    · exact h.elim
    · rename_i gc _
      split at h
      · obtain ⟨_, rfl⟩ := h; intro j ob hj; simp at hj
      · rcases h with h | h
        · unfold callG at h
          split at h
          · obtain ⟨out0, _, ⟨k2, _⟩, rfl⟩ := h; intro j ob hj; simp [k2] at hj
          · exact h.elim
        cases gc with
        | true => exact evX_names (h.1 rfl)
        | false => have := h.2 rfl; subst this; intro j ob hj; simp at hj

theorem aget_asets_none : ∀ (ob : List (Nat × AObj)) (s : List (Nat × AObj)) (k : Nat), aget s k = none → (∀ o, (k, o) ∉ ob) → aget (asets s ob) k = none
  | [], s, k, h, _ => h
  | (j, o) :: r, s, k, h, hn => by
    refine aget_asets_none r (aset s j o) k ?_ (fun o' ho' => hn o' (List.mem_cons_of_mem _ ho'))
    rw [aget_aset]
    have : j ≠ k := by rintro rfl; exact hn o (by simp)
    simp [this, h]

/-- names that are free stay free -/
theorem free_after {base : Nat} {st : St} {out : Out} (hn : NmOk base st out) {k : Nat} (hk : aget st.s.sto k = none) (ho : k < base ∨ base + out.n ≤ k) (d : Option Nat) : aget (st.app d out).s.sto k = none := by
  refine aget_asets_none _ _ _ hk fun o h => ?_
  rcases hn k o h with h | h
  · exact h hk
  · omega

def DstOk (C : Ctx) (ops : Array Oper) : Prop := ∀ (j : Nat) (p : Oper) (d : Nat), ops[j]? = some p → p.dst = some d → d < C.n

theorem resOs_at : ∀ {l : List Oper} {aos : List AO}, resOs P ops l = some aos → l.length = aos.length ∧ ∀ (j : Nat) (o : Oper) (ao : AO), l[j]? = some o → aos[j]? = some ao → resO P ops o = some ao
  | [], aos, h => by simp [resOs] at h; subst h; simp
  | o :: r, aos, h => by
    simp only [resOs] at h
    split at h
    · rename_i a l h1 h2
      simp at h; subst h
      obtain ⟨i1, i2⟩ := resOs_at h2
      refine ⟨by simp [i1], fun j p ao hp ha => ?_⟩
      cases j with
      | zero => simp at hp ha; subst hp; subst ha; exact h1
      | succ j => exact i2 j p ao (by simpa using hp) (by simpa using ha)
    · simp at h

theorem seq_ops {C : Ctx} (hC : C.P = P) (hd : DstOk C ops) {aos : List AO} (hres : resOs P ops ops.toList = some aos) {Q : Exit → Act → World → Prop} {b' : Nat} {st' : St} (m : Nat) :
    ∀ (r : List AO) (i : Nat) (base : Nat) (st : St) (outs : List Out) (Λ : L) (a : Act), aos.drop i = r → Ch P base st r outs b' st' → Rel C Λ st a → Λ.nxt = m → b' ≤ m →
      (∀ k, base ≤ k → k < m → Free Λ k ∧ aget st.s.sto k = none) → (∀ (a' : Act) (Λ' : L), Rel C Λ' st' a' → Λ'.nxt = m → Q .normal a' Λ'.w) → wpOps P ops Q (List.range' i r.length) a Λ.w
  | [], i, base, st, outs, Λ, a, _, hch, hr, hm, _, _, hq => by
    cases outs with
    | nil => obtain ⟨rfl, rfl⟩ := hch; simp only [List.length_nil, List.range'_zero, wpOps]; exact hq a Λ hr hm
    | cons _ _ => exact hch.elim
  | ao :: r, i, base, st, outs, Λ, a, hdrop, hch, hr, hm, hb, hf, hq => by
    cases outs with
    | nil => exact hch.elim
    | cons out os =>
      obtain ⟨h1, h2⟩ := hch
      obtain ⟨hlen, hat⟩ := resOs_at hres
      have hi : i < aos.length := by
        rcases Nat.lt_or_ge i aos.length with h | h
        · exact h
        · rw [List.drop_eq_nil_of_le h] at hdrop; cases hdrop
      have hao : aos[i]? = some ao := by
        have := List.getElem?_drop (xs := aos) (i := i) (j := 0)
        rw [hdrop] at this; simpa using this.symm
      have hopi : i < ops.size := by rw [← Array.length_toList, hlen]; exact hi
      have ho : ops[i]? = some ops[i] := by simp [hopi]
      have hro := hat i ops[i] ao (by simp) hao
      have hle := Ch.le h2
      have hnm := evO_names h1
      simp only [List.length_cons, List.range'_succ]
      rw [wpOps_cons]
      refine (evO_sound ho hro h1 hC hr hd (by omega) (fun k k1 k2 => ?_) fun v Λ' k1 k2 k3 k4 k5 => ?_).2
      · obtain ⟨f1, f2⟩ := hf k k1 (by omega)
        exact ⟨by omega, f1, f2⟩
      · have hdst : ao.dst = ops[i].dst := (evO_sound (next := fun _ _ => True) (Q := Q) ho hro h1 hC hr hd (by omega) (fun k k1 k2 => by
          obtain ⟨f1, f2⟩ := hf k k1 (by omega); exact ⟨by omega, f1, f2⟩) (fun _ _ _ _ _ _ _ => trivial)).1
        have hr' : Rel C Λ' (st.app ao.dst out) (a.put ao.dst v) := hr.step k1 (fun x hx => hd i _ x ho (by rw [← hdst]; exact hx)) k4 k3
        rw [← hdst]
        refine seq_ops hC hd hres m r (i + 1) _ _ os Λ' _ (by rw [← List.drop_drop, hdrop]; rfl) h2 hr' (by omega) hb (fun k k6 k7 => ?_) hq
        obtain ⟨f1, f2⟩ := hf k (by omega) k7
        exact ⟨k5 k f1 f2 (.inl k6), free_after hnm f2 (.inr k6) _⟩

end
end Go.GB
