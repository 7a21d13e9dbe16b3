/-
  GbS: regions whose order is drawn: independent operations may go in any order.
-/
import Derived.Test.YticfklecmdjklaaGbR
namespace Go.GB

/-- the state behind the operations of a set -/
def stD (D : Nat → Bool) : Nat → St → List AO → List Out → St
  | i, st, ao :: r, out :: os => stD D (i + 1) (if D i then st.app ao.dst out else st) r os
  | _, st, _, _ => st

def sumN : List Out → Nat
  | [] => 0
  | o :: r => o.n + sumN r

/-- masks of what must go before -/
def befores : List (List Nat) → List Nat → List Nat
  | [], acc => acc
  | l :: r, acc => befores r (acc ++ [l.foldl (fun s j => s ||| (2 ^ j ||| acc.getD j 0)) 0])

def AO.hits (a b : AO) : Bool :=
  match a.dst with
  | some d => b.reads.contains d
  | none => false
def AO.same (a b : AO) : Bool :=
  match a.dst with
  | some d => b.dst == some d
  | none => false
def AO.clash (a b : AO) : Bool := (a.hits b || b.hits a) || (a.same b || b.same a)

def pairOk (bm : List Nat) (aos : List AO) (fl : List (Bool × Bool)) (j i : Nat) : Bool :=
  (bm.getD i 0).testBit j ||
    (!((aos.getD j ⟨none, none, .cst .top⟩).clash (aos.getD i ⟨none, none, .cst .top⟩)) && !((fl.getD j (false, false)).1 && (fl.getD i (false, false)).2) && !((fl.getD i (false, false)).1 && (fl.getD j (false, false)).2))

def indep (aos : List AO) (after : List (List Nat)) (fl : List (Bool × Bool)) : Bool :=
  (after.zipIdx.all fun p => p.1.all fun j => decide (j < p.2)) &&
  (List.range aos.length).all fun i => (List.range i).all fun j => pairOk (befores after []) aos fl j i

section
variable {P : Program} {ops : Array Oper}

structure Eqv (s t : St) : Prop where
  env : ∀ x, look s.env x = look t.env x
  sto : ∀ k, aget s.s.sto k = aget t.s.sto k

theorem Eqv.refl (s : St) : Eqv s s := ⟨fun _ => rfl, fun _ => rfl⟩
theorem Eqv.trans {a b c : St} (h : Eqv a b) (k : Eqv b c) : Eqv a c := ⟨fun x => (h.env x).trans (k.env x), fun x => (h.sto x).trans (k.sto x)⟩
theorem Eqv.symm {a b : St} (h : Eqv a b) : Eqv b a := ⟨fun x => (h.env x).symm, fun x => (h.sto x).symm⟩

theorem RelS.eqv {Λ : L} {s t : S} (h : RelS Λ s) (e : ∀ k, aget s.sto k = aget t.sto k) : RelS Λ t :=
  ⟨fun k o hk => h.sto k o (by rw [e]; exact hk), h.inj, h.new, h.bnd, h.frz⟩
theorem Rel.eqv {C : Ctx} {Λ : L} {s t : St} {a : Act} (h : Rel C Λ s a) (e : Eqv s t) : Rel C Λ t a :=
  ⟨h.kp, h.size, h.defers, fun x => by rw [← e.env]; exact h.env x, h.s.eqv e.sto⟩

theorem aget_asets_out : ∀ (ob s : List (Nat × AObj)) (k : Nat), (∀ o, (k, o) ∉ ob) → aget (asets s ob) k = aget s k
  | [], s, k, _ => rfl
  | (j, o) :: r, s, k, h => by
    have hj : j ≠ k := by rintro rfl; exact h o (by simp)
    simp only [asets]
    rw [aget_asets_out r _ k (fun o' ho => h o' (List.mem_cons_of_mem _ ho)), aget_aset]; simp [hj]
theorem aget_asets_in : ∀ (ob s s' : List (Nat × AObj)) (k : Nat), (∃ o, (k, o) ∈ ob) → aget (asets s ob) k = aget (asets s' ob) k
  | [], s, s', k, h => by obtain ⟨o, h⟩ := h; simp at h
  | (j, o) :: r, s, s', k, h => by
    simp only [asets]
    by_cases hr : ∃ o', (k, o') ∈ r
    · exact aget_asets_in r _ _ k hr
    · have hr' : ∀ o', (k, o') ∉ r := fun o' ho => hr ⟨o', ho⟩
      rw [aget_asets_out r _ k hr', aget_asets_out r _ k hr', aget_aset, aget_aset]
      have : j = k := by
        obtain ⟨o', ho⟩ := h
        rcases List.mem_cons.1 ho with e | e
        · simp at e; exact e.1.symm
        · exact (hr' o' e).elim
      simp [this]
theorem aget_asets_congr (ob s s' : List (Nat × AObj)) (h : ∀ k, aget s k = aget s' k) (k : Nat) : aget (asets s ob) k = aget (asets s' ob) k := by
  by_cases hk : ∃ o, (k, o) ∈ ob
  · exact aget_asets_in ob s s' k hk
  · have hk' : ∀ o', (k, o') ∉ ob := fun o' ho => hk ⟨o', ho⟩
    rw [aget_asets_out ob _ k hk', aget_asets_out ob _ k hk', h]

theorem Eqv.app {s t : St} (h : Eqv s t) (d : Option Nat) (o : Out) : Eqv (s.app d o) (t.app d o) := by
  refine ⟨fun x => ?_, aget_asets_congr _ _ _ h.sto⟩
  cases d with
  | none => exact h.env x
  | some d => simp only [St.app, look_aset, h.env x]

theorem app_comm (s : St) {d d' : Option Nat} {o o' : Out} (hd : ∀ x, d = some x → d' ≠ some x) (ho : ∀ k a b, (k, a) ∈ o.ob → (k, b) ∉ o'.ob) : Eqv ((s.app d o).app d' o') ((s.app d' o').app d o) := by
  refine ⟨fun x => ?_, fun k => ?_⟩
  · cases d with
    | none => cases d' <;> simp [St.app, look_aset]
    | some d =>
      cases d' with
      | none => simp [St.app, look_aset]
      | some d' =>
        have : d ≠ d' := by rintro rfl; exact hd d rfl rfl
        simp only [St.app, look_aset]
        by_cases h1 : d = x
        · subst h1; simp [Ne.symm this]
        · simp [h1]
  · show aget (asets (asets s.s.sto o.ob) o'.ob) k = aget (asets (asets s.s.sto o'.ob) o.ob) k
    by_cases hk : ∃ a, (k, a) ∈ o.ob
    · obtain ⟨a, ha⟩ := hk
      rw [aget_asets_out o'.ob _ k (fun b => ho k a b ha)]
      exact aget_asets_in _ _ _ k ⟨a, ha⟩
    · have hk' : ∀ a, (k, a) ∉ o.ob := fun a ha => hk ⟨a, ha⟩
      rw [aget_asets_out o.ob _ k hk']
      by_cases hk2 : ∃ b, (k, b) ∈ o'.ob
      · exact aget_asets_in _ _ _ k hk2
      · have hk2' : ∀ b, (k, b) ∉ o'.ob := fun b hb => hk2 ⟨b, hb⟩
        rw [aget_asets_out o'.ob _ k hk2', aget_asets_out o'.ob _ k hk2', aget_asets_out o.ob _ k hk']

theorem stD_eqv (D : Nat → Bool) : ∀ (r : List AO) (os : List Out) (i : Nat) {s t : St}, Eqv s t → Eqv (stD D i s r os) (stD D i t r os)
  | [], os, i, s, t, h => by cases os <;> exact h
  | ao :: r, [], i, s, t, h => h
  | ao :: r, o :: os, i, s, t, h => by
    simp only [stD]
    refine stD_eqv D r os (i + 1) ?_
    split
    · exact h.app _ _
    · exact h

theorem stD_ext {D D' : Nat → Bool} : ∀ (r : List AO) (os : List Out) (i : Nat) (s : St), (∀ j, i ≤ j → j < i + r.length → D j = D' j) → stD D i s r os = stD D' i s r os
  | [], os, i, s, h => by cases os <;> rfl
  | ao :: r, [], i, s, h => rfl
  | ao :: r, o :: os, i, s, h => by
    simp only [stD, h i (Nat.le_refl _) (by simp)]
    exact stD_ext r os (i + 1) _ (fun j h1 h2 => h j (by omega) (by simp; omega))

theorem stD_none {D : Nat → Bool} : ∀ (r : List AO) (os : List Out) (i : Nat) (s : St), (∀ j, i ≤ j → D j = false) → stD D i s r os = s
  | [], os, i, s, h => by cases os <;> rfl
  | ao :: r, [], i, s, h => rfl
  | ao :: r, o :: os, i, s, h => by
    simp only [stD, h i (Nat.le_refl _), Bool.false_eq_true, if_false]
    exact stD_none r os (i + 1) _ (fun j h1 => h j (by omega))

theorem stD_look {D D' : Nat → Bool} {t : Nat} : ∀ (r : List AO) (os : List Out) (i : Nat) (s s' : St), (∀ j ao, r[j]? = some ao → ao.dst = some t → D (i + j) = D' (i + j)) → look s.env t = look s'.env t → look (stD D i s r os).env t = look (stD D' i s' r os).env t
  | [], os, i, s, s', h, e => by cases os <;> exact e
  | ao :: r, [], i, s, s', h, e => e
  | ao :: r, o :: os, i, s, s', h, e => by
    simp only [stD]
    refine stD_look r os (i + 1) _ _ (fun j a hj hd => by have := h (j + 1) a (by simpa using hj) hd; rw [Nat.add_assoc, Nat.add_comm 1 j]; exact this) ?_
    by_cases hd : ao.dst = some t
    · have := h 0 ao rfl hd
      simp only [Nat.add_zero] at this
      rw [this]
      split
      · simp [St.app, hd, look_aset]
      · exact e
    · have key : ∀ (u : St), look (u.app ao.dst o).env t = look u.env t := by
        intro u
        cases hdd : ao.dst with
        | none => rfl
        | some d =>
          have : d ≠ t := by rintro rfl; exact hd hdd
          simp [St.app, look_aset, this]
      have key2 : ∀ (b : Bool) (u : St), look (if b then u.app ao.dst o else u).env t = look u.env t := by
        intro b u; cases b
        · rfl
        · exact key u
      rw [key2, key2]; exact e

theorem stD_sto {D D' : Nat → Bool} : ∀ (r : List AO) (os : List Out) (i : Nat) (s s' : St), (∀ j o, os[j]? = some o → o.ob ≠ [] → D (i + j) = D' (i + j)) → s.s.sto = s'.s.sto → (stD D i s r os).s.sto = (stD D' i s' r os).s.sto
  | [], os, i, s, s', h, e => by cases os <;> exact e
  | ao :: r, [], i, s, s', h, e => e
  | ao :: r, o :: os, i, s, s', h, e => by
    simp only [stD]
    refine stD_sto r os (i + 1) _ _ (fun j a hj hd => by have := h (j + 1) a (by simpa using hj) hd; rw [Nat.add_assoc, Nat.add_comm 1 j]; exact this) ?_
    by_cases hob : o.ob = []
    · have key2 : ∀ (b : Bool) (u : St), (if b then u.app ao.dst o else u).s.sto = u.s.sto := by
        intro b u; cases b
        · rfl
        · simp [St.app, S.app, hob, asets]
      rw [key2, key2]; exact e
    · have := h 0 o rfl hob
      simp only [Nat.add_zero] at this
      rw [this]
      split
      · simp only [St.app, S.app, e]
      · exact e

/-- two operations that do not meet -/
structure Apart (ao : AO) (o : Out) (bo : AO) (p : Out) : Prop where
  dst : ∀ x, ao.dst = some x → bo.dst ≠ some x
  ob : ∀ k a b, (k, a) ∈ o.ob → (k, b) ∉ p.ob

theorem stD_app {D : Nat → Bool} {ao : AO} {o : Out} : ∀ (r : List AO) (os : List Out) (i : Nat) (s : St), (∀ j bo p, r[j]? = some bo → os[j]? = some p → D (i + j) = true → Apart ao o bo p) →
    Eqv (stD D i (s.app ao.dst o) r os) ((stD D i s r os).app ao.dst o)
  | [], os, i, s, h => by cases os <;> exact Eqv.refl _
  | bo :: r, [], i, s, h => Eqv.refl _
  | bo :: r, p :: os, i, s, h => by
    simp only [stD]
    have ih := fun u => stD_app (D := D) (ao := ao) (o := o) r os (i + 1) u (fun j b q hb hq hD => h (j + 1) b q (by simpa using hb) (by simpa using hq) (by rw [Nat.add_assoc, Nat.add_comm 1 j] at hD; exact hD))
    by_cases hD : D i = true
    · simp only [hD, if_true]
      have hap := h 0 bo p rfl rfl (by simpa using hD)
      exact (stD_eqv D r os (i + 1) (app_comm s hap.dst hap.ob)).trans (ih _)
    · simp only [hD, Bool.false_eq_true, if_false]; exact ih s

theorem stD_insert {D D' : Nat → Bool} {n : Nat} {ao : AO} {o : Out} : ∀ (r : List AO) (os : List Out) (i : Nat) (s : St), r[n]? = some ao → os[n]? = some o → D (i + n) = false → D' (i + n) = true → (∀ j, j ≠ i + n → D' j = D j) →
    (∀ j bo p, r[j]? = some bo → os[j]? = some p → n < j → D (i + j) = true → Apart ao o bo p) → Eqv (stD D' i s r os) ((stD D i s r os).app ao.dst o)
  | [], os, i, s, h1, _, _, _, _, _ => by simp at h1
  | bo :: r, [], i, s, _, h2, _, _, _, _ => by simp at h2
  | bo :: r, p :: os, i, s, h1, h2, h3, h4, h5, h6 => by
    cases n with
    | zero =>
      simp at h1 h2; subst h1; subst h2
      simp only [Nat.add_zero] at h3 h4 h5
      simp only [stD, h3, h4, if_true, Bool.false_eq_true, if_false]
      rw [stD_ext (D := D') (D' := D) r os (i + 1) _ (fun j h1 _ => h5 j (by omega))]
      exact stD_app r os (i + 1) s (fun j b q hb hq hD => h6 (j + 1) b q (by simpa using hb) (by simpa using hq) (by omega) (by rw [Nat.add_assoc, Nat.add_comm 1 j] at hD; exact hD))
    | succ n =>
      simp only [stD, h5 i (by omega)]
      have e : i + 1 + n = i + (n + 1) := by omega
      exact stD_insert r os (i + 1) _ (by simpa using h1) (by simpa using h2) (by rw [e]; exact h3) (by rw [e]; exact h4) (fun j hj => h5 j (by omega)) (fun j b q hb hq hlt hD => h6 (j + 1) b q (by simpa using hb) (by simpa using hq) (by omega) (by rw [Nat.add_assoc, Nat.add_comm 1 j] at hD; exact hD))

/-- the order of the text: each operation at its own state -/
theorem Ch.at : ∀ {r : List AO} {os : List Out} {i base : Nat} {s : St} {b' : Nat} {s' : St}, Ch P base s r os b' s' → r.length = os.length ∧ b' = base + sumN os ∧ s' = stD (fun _ => true) i s r os ∧
    ∀ (j : Nat) (ao : AO) (o : Out), r[j]? = some ao → os[j]? = some o → evO P (base + sumN (os.take j)) (stD (fun l => decide (l < i + j)) i s r os) ao (· = o)
  | [], [], i, base, s, b', s', h => by obtain ⟨rfl, rfl⟩ := h; exact ⟨rfl, rfl, rfl, by simp⟩
  | ao :: r, o :: os, i, base, s, b', s', h => by
    obtain ⟨h1, h2⟩ := h
    obtain ⟨i1, i2, i3, i4⟩ := Ch.at (i := i + 1) h2
    refine ⟨by simp [i1], by simp only [sumN]; omega, by simp only [stD, if_true]; exact i3, fun j a p ha hp => ?_⟩
    cases j with
    | zero =>
      simp at ha hp; subst ha; subst hp
      have : stD (fun l => decide (l < i + 0)) i s (ao :: r) (o :: os) = s := stD_none _ _ _ _ (fun j hj => by simp; omega)
      rw [this]; simpa [sumN] using h1
    | succ j =>
      have := i4 j a p (by simpa using ha) (by simpa using hp)
      have e1 : base + o.n + sumN (os.take j) = base + sumN ((o :: os).take (j + 1)) := by simp [sumN]; omega
      have e2 : i + 1 + j = i + (j + 1) := by omega
      rw [e1, e2] at this
      have e3 : decide (i < i + (j + 1)) = true := by simp
      simp only [stD, e3, if_true]
      exact this
  | [], _ :: _, _, _, _, _, _, h => h.elim
  | _ :: _, [], _, _, _, _, _, h => h.elim

end
end Go.GB
