/-
  GbY: calls of functions that are handed objects: the whole store goes along.
-/
import Derived.Test.YticfklecmdjklaaGbW
namespace Go.GB
section
variable {P : Program}

/-- the labels behind a call that was handed the names below m -/
def L.backFrom (Λ : L) (m m' : Nat) (Λ' : L) : L where
  lab := fun b => if Λ.high m b then Λ.lab b else Λ'.lab b
  fro := fun k => if k < m' then Λ'.fro k else Λ.fro k
  nxt := Λ.nxt
  w := Λ'.w

theorem FnOk.same {f : FuncId} {vs : List V} {m : Nat} {sto : List (Nat × AObj)} {out : Out} (h : FnOk P f vs ⟨sto, m⟩ out) (hrd : out.rd = true) (hb : V.bds m vs = true) (hs : stoBd m sto = true) (hob : ∀ k o, (k, o) ∈ out.ob → aget sto k ≠ none ∨ (m ≤ k ∧ k < m + out.n)) : FnAt P f vs m sto out := by
  refine ⟨h.1, hob, fun Λ args hr hle hfree hsz hargs => ?_⟩
  refine (h.2 (Λ.hideFrom m) args (hr.hf hs) rfl hsz fun j v y h1 h2 => (hargs j v y h1 h2).hf (V.bds_at hb j y h2)).mono fun e w' he => ?_
  obtain ⟨v, Λ', rfl, rfl, k1, k2, k3, k4⟩ := he
  simp only at k2 k3
  have hlt : ∀ {b : Nat}, Λ.high m b = true → b < Λ.w.heap.size := by
    intro b hh
    rcases Nat.lt_or_ge b Λ.w.heap.size with h | h
    · exact h
    · unfold L.high at hh; rw [hr.new b h] at hh; simp at hh
  have hH : ∀ {b : Nat}, Λ.high m b = true → (Λ.backFrom m (m + out.n) Λ').lab b = Λ.lab b := fun h => by simp [L.backFrom, h]
  have hL : ∀ {b : Nat}, Λ.high m b = false → (Λ.backFrom m (m + out.n) Λ').lab b = Λ'.lab b := fun h => by simp [L.backFrom, h]
  have hheap : ∀ {b : Nat}, Λ.high m b = true → ∃ fr, Λ'.lab b = .fix (some fr) ∧ Λ'.w.heap[b]? = Λ.w.heap[b]? ∧ ((∃ k, Λ.lab b = .obj k ∧ m ≤ k ∧ fr = 0) ∨ ∃ k, Λ.lab b = .arr k fr ∧ m ≤ k) := by
    intro b hh
    obtain ⟨fr, e1, e2⟩ := hf_high hh
    obtain ⟨g1, g2⟩ := k1.fr.fix b (hlt hh) _ e1
    exact ⟨fr, g1, g2, e2⟩
  have hlow : ∀ {b k : Nat}, k < m → (Λ.lab b = .obj k ∨ ∃ n, Λ.lab b = .arr k n) → Λ.high m b = false := by
    intro b k hk hb
    unfold L.high
    rcases hb with hb | ⟨n, hb⟩ <;> rw [hb] <;> simp <;> omega
  have hkp : Kp Λ (Λ.backFrom m (m + out.n) Λ') := by
    refine ⟨⟨k1.fr.os, k1.fr.tape, k1.fr.output, k1.fr.size, fun b hb fr hl => ?_, fun b hb k fr hl o ho => ?_⟩, Nat.le_refl _, fun b k _ hl => ?_, fun b k n _ hb hl hf => ?_, fun k hk => ?_⟩
    · have hh : Λ.high m b = false := by unfold L.high; rw [hl]
      obtain ⟨g1, g2⟩ := k1.fr.fix b hb fr (by rw [hf_low hh]; exact hl)
      exact ⟨by rw [hL hh]; exact g1, g2⟩
    · cases hh : Λ.high m b with
      | true =>
        obtain ⟨fr', g1, g2, g3⟩ := hheap hh
        exact ⟨by unfold Rd; rw [hH hh, hl]; exact ho, cell?_heap g2⟩
      | false =>
        obtain ⟨g1, g2⟩ := k1.fr.arr b hb k fr (by rw [hf_low hh]; exact hl) o ho
        exact ⟨by unfold Rd; rw [hL hh]; exact g1, g2⟩
    · cases hh : Λ.high m b with
      | true => rw [hH hh]; exact hl
      | false =>
        have hk : k < m := by unfold L.high at hh; rw [hl] at hh; simpa using hh
        rw [hL hh]; exact k1.obj b k hk (hf_obj hl hk)
    · cases hh : Λ.high m b with
      | true =>
        obtain ⟨fr', g1, g2, g3⟩ := hheap hh
        exact ⟨by rw [hH hh]; exact hl, g2⟩
      | false =>
        have hk : k < m := by unfold L.high at hh; rw [hl] at hh; simpa using hh
        have e1 : (Λ.hideFrom m).fro k = Λ.fro k := by simp [L.hideFrom, hk]
        have e2 : (Λ.backFrom m (m + out.n) Λ').fro k = Λ'.fro k := by simp [L.backFrom]; omega
        obtain ⟨g1, g2⟩ := k1.own b k n hk hb (hf_arr hl hk) (by rw [← e2, hf, e1])
        exact ⟨by rw [hL hh]; exact g1, g2⟩
    · simp only [L.backFrom]
      by_cases h1 : k < m
      · have := k1.fro k h1
        have e1 : (Λ.hideFrom m).fro k = Λ.fro k := by simp [L.hideFrom, h1]
        rw [if_pos (by omega)]; omega
      · by_cases h2 : k < m + out.n
        · rw [if_pos h2, (hfree k (by omega) h2).2.1.fro]; omega
        · rw [if_neg h2]; exact Nat.le_refl _
  -- values of the callee, seen again by the caller
  have hobj : ∀ {b k : Nat}, Λ'.lab b = .obj k → (Λ.backFrom m (m + out.n) Λ').lab b = .obj k := by
    intro b k hb
    cases hh : Λ.high m b with
    | true => obtain ⟨fr, g1, _⟩ := hheap hh; rw [g1] at hb; simp at hb
    | false => rw [hL hh]; exact hb
  have harr : ∀ {b k n : Nat}, Λ'.lab b = .arr k n → (Λ.backFrom m (m + out.n) Λ').lab b = .arr k n := by
    intro b k n hb
    cases hh : Λ.high m b with
    | true => obtain ⟨fr, g1, _⟩ := hheap hh; rw [g1] at hb; simp at hb
    | false => rw [hL hh]; exact hb
  have hrep : ∀ {u : Value} {y : T}, RepT Λ'.lab Λ'.w u y → RepT (Λ.backFrom m (m + out.n) Λ').lab (Λ.backFrom m (m + out.n) Λ').w u y := by
    intro u y hy
    refine hy.keep fun b o _ _ hrd => ⟨?_, rfl⟩
    cases hh : Λ.high m b with
    | true =>
      obtain ⟨fr, g1, _, g3⟩ := hheap hh
      unfold Rd at hrd ⊢
      rw [g1] at hrd
      rw [hH hh]
      rcases g3 with ⟨k, e, _, rfl⟩ | ⟨k, e, _⟩
      · omega
      · rw [e]; exact hrd
    | false => unfold Rd; rw [hL hh]; exact hrd
  have hfro : ∀ {k : Nat}, k < Λ'.nxt → (Λ.backFrom m (m + out.n) Λ').fro k = Λ'.fro k := by
    intro k hk; rw [k2] at hk; simp [L.backFrom, hk]
  have hval : ∀ {u : Value} {y : V}, RelV Λ' u y → RelV (Λ.backFrom m (m + out.n) Λ') u y := by
    intro u y hy
    induction hy with
    | t h => exact .t (hrep h)
    | nils => exact .nils
    | @own v k sz xs h hsz hl hn ho =>
      refine .own (hrep h) hsz (by show k < Λ.nxt; omega) (by rw [hfro hl]; exact hn) fun he => ?_
      rcases ho (by rw [← hfro hl]; exact he) with ho | ⟨b, cap, arr, e, hv, hb', hh, hc, hn'⟩
      · exact .inl ho
      · exact .inr ⟨b, cap, arr, e, hv, harr hb', hh, hc, hn'⟩
    | slc hl hc h => exact .slc (by show _ < Λ.nxt; omega) hc (hobj h)
    | agg hs _ ih => exact .agg hs ih
    | tup hs _ ih => exact .tup hs ih
    | ptr hl h => exact .ptr (by show _ < Λ.nxt; omega) (hobj h)
    | mp hl h => exact .mp (by show _ < Λ.nxt; omega) (hobj h)
    | fn hs h => exact .fn hs fun j v c h1 h2 => let ⟨b, e1, e2, e3⟩ := h j v c h1 h2; ⟨b, e1, hobj e2, by show _ < Λ.nxt; omega⟩
    | gd _ h' ih => exact .gd ih h'
    | top => exact .top
  have hname : ∀ {b k : Nat}, Λ.high m b = true → ((Λ.backFrom m (m + out.n) Λ').lab b = .obj k ∨ ∃ n, (Λ.backFrom m (m + out.n) Λ').lab b = .arr k n) → m + out.n ≤ k ∧ (Λ.lab b = .obj k ∨ ∃ n, Λ.lab b = .arr k n) := by
    intro b k hh hb
    rw [hH hh] at hb
    refine ⟨?_, hb⟩
    have hge : m ≤ k := by unfold L.high at hh; rcases hb with hb | ⟨n, hb⟩ <;> rw [hb] at hh <;> simpa using hh
    rcases Nat.lt_or_ge k (m + out.n) with h | h
    · have := (hfree k hge h).2.1
      rcases hb with hb | ⟨n, hb⟩
      · exact absurd hb (this.obj b)
      · exact absurd hb (this.arr b n)
    · exact h
  have hlowname : ∀ {b k : Nat}, Λ.high m b = false → ((Λ.backFrom m (m + out.n) Λ').lab b = .obj k ∨ ∃ n, (Λ.backFrom m (m + out.n) Λ').lab b = .arr k n) → k < m + out.n ∧ (Λ'.lab b = .obj k ∨ ∃ n, Λ'.lab b = .arr k n) := by
    intro b k hh hb
    rw [hL hh] at hb
    have := k3.bnd b k hb
    exact ⟨by omega, hb⟩
  refine ⟨v, Λ.backFrom m (m + out.n) Λ', rfl, rfl, hkp, rfl, ?_, hval k4, fun k hk hn hcase => ?_⟩
  · refine ⟨fun k o ho => ?_, fun b b' k h1 h2 => ?_, fun b hb => ?_, fun b k hb => ?_, fun k hk => ?_⟩
    · obtain ⟨g1, g2⟩ := k3.sto k o ho
      refine ⟨by show k < Λ.nxt; omega, ?_⟩
      cases o with
      | cells cs =>
        obtain ⟨b, arr, e, e1, e2, e3, e4⟩ := g2
        exact ⟨b, arr, e, hobj e1, e2, e3, fun j v c a1 a2 => hval (e4 j v c a1 a2)⟩
      | map kag vag es =>
        obtain ⟨b, ents, clock, e1, e2, e3⟩ := g2
        exact ⟨b, ents, clock, hobj e1, e2, e3.keep fun _ _ h => hrep h⟩
      | arr n => unfold RelO at *; rw [hfro g1]; exact g2
    · cases hh : Λ.high m b with
      | true =>
        obtain ⟨q1, q2⟩ := hname hh (.inl h1)
        cases hh' : Λ.high m b' with
        | true =>
          rw [hH hh] at h1; rw [hH hh'] at h2
          exact hr.inj b b' k h1 h2
        | false => have := (hlowname hh' (.inl h2)).1; omega
      | false =>
        have q := (hlowname hh (.inl h1)).1
        cases hh' : Λ.high m b' with
        | true => have := (hname hh' (.inl h2)).1; omega
        | false => rw [hL hh] at h1; rw [hL hh'] at h2; exact k3.inj b b' k h1 h2
    · have hge : Λ.w.heap.size ≤ b := Nat.le_trans k1.fr.size hb
      have hh : Λ.high m b = false := by unfold L.high; rw [hr.new b hge]
      rw [hL hh]; exact k3.new b hb
    · show k < Λ.nxt
      cases hh : Λ.high m b with
      | true => exact hr.bnd b k (hname hh hb).2
      | false => have := (hlowname hh hb).1; omega
    · have hk' : Λ.nxt ≤ k := hk
      simp only [L.backFrom]
      rw [if_neg (by omega)]; exact hr.frz k hk'
  · rcases hcase with hge | ⟨hlt', hrd'⟩
    · refine ⟨fun b hb => ?_, fun b n hb => ?_, ?_⟩
      · cases hh : Λ.high m b with
        | true => rw [hH hh] at hb; exact hk.obj b hb
        | false => have := (hlowname hh (.inl hb)).1; omega
      · cases hh : Λ.high m b with
        | true => rw [hH hh] at hb; exact hk.arr b n hb
        | false => have := (hlowname hh (.inr ⟨n, hb⟩)).1; omega
      · simp only [L.backFrom]; rw [if_neg (by omega)]; exact hk.fro
    · rw [hrd] at hrd'; cases hrd'

/-- a call that is handed the whole store and leaves it as it is -/
theorem callSame {f : FuncId} {vs : List V} {x : V} {base : Nat} {sto : List (Nat × AObj)} {K : Out → Prop} (h : FnOk P f vs ⟨sto, base⟩ { v := x, rd := true }) (hb : V.bds base vs = true) (hs : stoBd base sto = true) (hk : K { v := x, rd := true }) : FnEv P f vs base sto K :=
  ⟨_, by simp only [if_true]; exact h.same rfl hb hs (by simp), hk⟩

/-- a call that changes objects -/
theorem callChg {f : FuncId} {vs : List V} {out : Out} {base : Nat} {sto : List (Nat × AObj)} {K : Out → Prop} (h : FnOk P f vs ⟨sto, base⟩ out) (hrd : out.rd = true) (hb : V.bds base vs = true) (hs : stoBd base sto = true) (hob : ∀ k o, (k, o) ∈ out.ob → aget sto k ≠ none ∨ (base ≤ k ∧ k < base + out.n)) (hk : K out) : FnEv P f vs base sto K :=
  ⟨_, by simp only [hrd, if_true]; exact h.same hrd hb hs hob, hk⟩

/-- a library function of which a contract says that it leaves the world -/
theorem FnOk.of_calls {f : FuncId} {vs : List V} {s : S} {x : V} {rd : Bool} (hb : HasB P f) (h : ∀ (Λ : L) (args : Array Value), RelS Λ s → args.size = vs.length → (∀ (j : Nat) (v : Value) (y : V), args[j]? = some v → vs[j]? = some y → RelV Λ v y) → ∃ r, RelV Λ r x ∧ Calls P f args Λ.w fun e w' => e = .returned r ∧ w' = Λ.w) (hs : s.sto = [] ) : FnOk P f vs s { v := x, rd := rd } := by
  refine ⟨hb, fun Λ args hr hx hsz hargs => ?_⟩
  obtain ⟨r, h1, h2⟩ := h Λ args hr hsz hargs
  refine h2.mono fun e w' he => ?_
  obtain ⟨rfl, rfl⟩ := he
  exact ⟨r, Λ, rfl, rfl, Kp.refl _, by simp [hx], ⟨by simp [hs, asets, aget], hr.inj, hr.new, hr.bnd, hr.frz⟩, h1⟩

end
end Go.GB
