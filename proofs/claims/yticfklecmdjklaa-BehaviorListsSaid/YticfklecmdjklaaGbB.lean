/-
  GbB: abstract stores and states, their relation to worlds and frames, and how it is kept.
-/
import Derived.Test.YticfklecmdjklaaGbA
namespace Go.GB

/-- association lists -/
def aget {α : Type} : List (Nat × α) → Nat → Option α
  | [], _ => none
  | (k, x) :: r, t => if k = t then some x else aget r t
def aset {α : Type} : List (Nat × α) → Nat → α → List (Nat × α)
  | [], d, v => [(d, v)]
  | (k, x) :: r, d, v => if k = d then (k, v) :: r else (k, x) :: aset r d v

theorem aget_aset {α : Type} (e : List (Nat × α)) (d : Nat) (v : α) (t : Nat) : aget (aset e d v) t = if d = t then some v else aget e t := by
  induction e with
  | nil => simp [aset, aget]
  | cons h r ih =>
    obtain ⟨k, x⟩ := h
    by_cases h1 : k = d
    · subst h1; simp only [aset, if_true, aget]; by_cases h : k = t <;> simp [h]
    · simp only [aset, h1, if_false, aget, ih]
      by_cases h3 : k = t
      · subst h3; simp [Ne.symm h1]
      · simp [h3]

def look (e : List (Nat × V)) (t : Nat) : V := (aget e t).getD .top

theorem look_aset (e : List (Nat × V)) (d : Nat) (v : V) (t : Nat) : look (aset e d v) t = if d = t then v else look e t := by
  unfold look; rw [aget_aset]; split <;> rfl

/-- a value of one cell or an aggregate reads as these trees -/
def RepA (l : Nat → Lab) (w : World) (ag : Bool) (v : Value) (cs : List T) : Prop :=
  if ag then ∃ vs : Array Value, v = .agg vs ∧ vs.size = cs.length ∧ ∀ (j : Nat) (u : Value) (x : T), vs[j]? = some u → cs[j]? = some x → RepT l w u x
  else ∃ x, cs = [x] ∧ RepT l w v x

theorem RepA.keep {l l' : Nat → Lab} {w w' : World} (hf : ∀ v x, RepT l w v x → RepT l' w' v x) {ag : Bool} {v : Value} {cs : List T} (h : RepA l w ag v cs) : RepA l' w' ag v cs := by
  unfold RepA at *
  cases ag with
  | true => obtain ⟨vs, h1, h2, h3⟩ := h; exact ⟨vs, h1, h2, fun j u x a b => hf _ _ (h3 j u x a b)⟩
  | false => obtain ⟨x, h1, h2⟩ := h; exact ⟨x, h1, hf _ _ h2⟩

/-- a map's entries read as these pairs -/
structure RepM (l : Nat → Lab) (w : World) (kag vag : Bool) (ents : Array MapEntry) (clock : Nat) (es : List (List T × List T)) : Prop where
  size : ents.size = es.length
  at_ : ∀ (i : Nat) (e : MapEntry) (kv : List T × List T), ents[i]? = some e → es[i]? = some kv → RepA l w kag e.key kv.1 ∧ RepA l w vag e.val kv.2
  born : ∀ (i : Nat) (e : MapEntry), ents[i]? = some e → e.born < clock
  apart : ∀ (i j : Nat) (e f : MapEntry), ents[i]? = some e → ents[j]? = some f → e.born = f.born → i = j

theorem RepM.keep {l l' : Nat → Lab} {w w' : World} (hf : ∀ v x, RepT l w v x → RepT l' w' v x) {kag vag : Bool} {ents : Array MapEntry} {clock : Nat} {es : List (List T × List T)}
    (h : RepM l w kag vag ents clock es) : RepM l' w' kag vag ents clock es :=
  ⟨h.size, fun i e kv a b => ⟨(h.at_ i e kv a b).1.keep hf, (h.at_ i e kv a b).2.keep hf⟩, h.born, h.apart⟩

def RelO (Λ : L) (k : Nat) : AObj → Prop
  | .cells cs => ∃ (b : Nat) (arr : Array Value) (e : TypeId), Λ.lab b = .obj k ∧ Λ.w.heap[b]? = some (.cells arr e (0, 0)) ∧ arr.size = cs.length ∧
      ∀ (j : Nat) (v : Value) (c : V), arr[j]? = some v → cs[j]? = some c → RelV Λ v c
  | .map kag vag es => ∃ (b : Nat) (ents : Array MapEntry) (clock : Nat), Λ.lab b = .obj k ∧ Λ.w.heap[b]? = some (.map ents clock) ∧ RepM Λ.lab Λ.w kag vag ents clock es
  | .arr n => Λ.fro k = n

/-- Abstract stores. -/
structure S where
  sto : List (Nat × AObj)
  nxt : Nat

structure RelS (Λ : L) (s : S) : Prop where
  sto : ∀ (k : Nat) (o : AObj), aget s.sto k = some o → k < Λ.nxt ∧ RelO Λ k o
  inj : ∀ b b' k, Λ.lab b = .obj k → Λ.lab b' = .obj k → b = b'
  new : ∀ b, Λ.w.heap.size ≤ b → Λ.lab b = .fix none
  bnd : ∀ b k, (Λ.lab b = .obj k ∨ ∃ n, Λ.lab b = .arr k n) → k < Λ.nxt
  frz : ∀ k, Λ.nxt ≤ k → Λ.fro k = 0

/-- Abstract states. -/
structure St where
  env : List (Nat × V)
  s : S

structure Ctx where
  P : Program
  n : Nat
  Λ : L

structure Rel (C : Ctx) (Λ : L) (st : St) (a : Act) : Prop where
  kp : Kp C.Λ Λ
  size : a.tmps.size = C.n
  defers : a.defers = []
  env : ∀ t, RelV Λ (a.tmps.getD t undef) (look st.env t)
  s : RelS Λ st.s

theorem getD_put (a : Act) (d : Nat) (v : Value) (t : Nat) (h : d < a.tmps.size) :
    (a.put (some d) v).tmps.getD t undef = if d = t then v else a.tmps.getD t undef := by
  unfold Act.put
  simp only [Array.getD_eq_getD_getElem?, Array.getElem?_setIfInBounds]
  by_cases e : d = t
  · subst e; simp [h]
  · simp [e]

theorem put_size (a : Act) (d : Option Nat) (v : Value) : (a.put d v).tmps.size = a.tmps.size := by
  cases d <;> simp [Act.put]

/-- objects that no step has touched -/
theorem RelO.mono {Λ Λ' : L} (hk : Kp Λ Λ') {k : Nat} {o : AObj} (hl : k < Λ.nxt) (hb : ∀ b, Λ.lab b = .obj k → Λ'.w.heap[b]? = Λ.w.heap[b]?) (hf : Λ'.fro k = Λ.fro k) (h : RelO Λ k o) : RelO Λ' k o := by
  cases o with
  | cells cs =>
    obtain ⟨b, arr, e, h1, h2, h3, h4⟩ := h
    exact ⟨b, arr, e, hk.obj _ _ hl h1, by rw [hb b h1]; exact h2, h3, fun j v c a1 a2 => (h4 j v c a1 a2).mono hk⟩
  | map kag vag es =>
    obtain ⟨b, ents, clock, h1, h2, h3⟩ := h
    exact ⟨b, ents, clock, hk.obj _ _ hl h1, by rw [hb b h1]; exact h2, h3.keep fun _ _ h => h.mono hk.fr⟩
  | arr n => unfold RelO at *; rw [hf]; exact h

/-- What an operation does: its value, objects set (new ones too), names used, whether it looked at objects. -/
structure Out where
  v : V
  ob : List (Nat × AObj) := []
  n : Nat := 0
  rd : Bool := false

def asets : List (Nat × AObj) → List (Nat × AObj) → List (Nat × AObj)
  | s, [] => s
  | s, (k, o) :: r => asets (aset s k o) r

def S.app (s : S) (o : Out) : S := { s with sto := asets s.sto o.ob }

def St.app (st : St) (d : Option Nat) (o : Out) : St :=
  { env := match d with | some d => aset st.env d o.v | none => st.env, s := st.s.app o }

/-- The general step of a frame. -/
theorem Rel.step {C : Ctx} {Λ Λ' : L} {st : St} {a : Act} (h : Rel C Λ st a) (hk : Kp Λ Λ') {d : Option Nat} (hd : ∀ x, d = some x → x < C.n) {v : Value} {o : Out} (hv : RelV Λ' v o.v) (hs : RelS Λ' (st.s.app o)) :
    Rel C Λ' (st.app d o) (a.put d v) := by
  refine ⟨h.kp.trans hk, by rw [put_size]; exact h.size, by cases d <;> exact h.defers, fun t => ?_, hs⟩
  cases d with
  | none => exact (h.env t).mono hk
  | some d =>
    simp only [St.app]
    rw [look_aset, getD_put _ _ _ _ (by rw [h.size]; exact hd d rfl)]
    by_cases e : d = t
    · simp only [e, if_true]; exact hv
    · simp only [e, if_false]; exact (h.env t).mono hk

/-- a name that nothing bears -/
structure Free (Λ : L) (k : Nat) : Prop where
  obj : ∀ b, Λ.lab b ≠ .obj k
  arr : ∀ b n, Λ.lab b ≠ .arr k n
  fro : Λ.fro k = 0

/-- more names -/
def L.up (Λ : L) (m : Nat) : L := { Λ with nxt := m }

theorem Kp.up (Λ : L) {m : Nat} (h : Λ.nxt ≤ m) : Kp Λ (Λ.up m) :=
  ⟨Fr.refl _ _, h, fun _ _ _ h => h, fun _ _ _ _ _ h _ => ⟨h, rfl⟩, fun _ _ => Nat.le_refl _⟩

theorem RelS.up {Λ : L} {s : S} (h : RelS Λ s) {m : Nat} (hm : Λ.nxt ≤ m) : RelS (Λ.up m) s := by
  have hk := Kp.up Λ hm
  refine ⟨fun k o hk' => ?_, h.inj, h.new, fun b k hb => Nat.lt_of_lt_of_le (h.bnd b k hb) hm, fun k hk' => h.frz k (Nat.le_trans hm hk')⟩
  obtain ⟨h1, h2⟩ := h.sto k o hk'
  exact ⟨Nat.lt_of_lt_of_le h1 hm, h2.mono hk h1 (fun _ _ => rfl) rfl⟩

theorem RelS.free {Λ : L} {s : S} (h : RelS Λ s) {k : Nat} (hk : Λ.nxt ≤ k) : Free Λ k :=
  ⟨fun b hb => by have := h.bnd b k (.inl hb); omega, fun b n hb => by have := h.bnd b k (.inr ⟨n, hb⟩); omega, h.frz k hk⟩

theorem Rel.up {C : Ctx} {Λ : L} {st : St} {a : Act} (h : Rel C Λ st a) {m : Nat} (hm : Λ.nxt ≤ m) : Rel C (Λ.up m) st a := by
  have hk := Kp.up Λ hm
  exact ⟨h.kp.trans hk, h.size, h.defers, fun t => (h.env t).mono hk, h.s.up hm⟩

mutual
/-- the names in a value are below a bound -/
def V.bd (m : Nat) : V → Bool
  | .t _ => true
  | .nils => true
  | .top => true
  | .own k _ _ => decide (k < m)
  | .slc k _ _ _ => decide (k < m)
  | .ptr k _ => decide (k < m)
  | .mp k => decide (k < m)
  | .fn _ cs => cs.all fun c => decide (c.1 < m)
  | .agg cs => V.bds m cs
  | .tup cs => V.bds m cs
  | .gd _ x => x.bd m
def V.bds (m : Nat) : List V → Bool
  | [] => true
  | x :: r => x.bd m && V.bds m r
end

theorem V.bds_at {m : Nat} : ∀ {cs : List V}, V.bds m cs = true → ∀ (j : Nat) (c : V), cs[j]? = some c → c.bd m = true
  | [], _, j, c, h => by simp at h
  | x :: r, hb, 0, c, h => by simp at h; subst h; simp [V.bds] at hb; exact hb.1
  | x :: r, hb, j + 1, c, h => by simp [V.bds] at hb; exact V.bds_at hb.2 j c (by simpa using h)

/-- names from m on are forgotten -/
def L.cut (Λ : L) (m m' : Nat) : L where
  lab := fun b => match Λ.lab b with
    | .obj k => if k < m then .obj k else .fix none
    | .arr k fr => if k < m then .arr k fr else .fix none
    | x => x
  fro := fun k => if k < m then Λ.fro k else 0
  nxt := m'
  w := Λ.w

theorem cut_fix {Λ : L} {m m' b : Nat} {fr : Option Nat} (h : Λ.lab b = .fix fr) : (Λ.cut m m').lab b = .fix fr := by simp [L.cut, h]
theorem cut_obj {Λ : L} {m m' b k : Nat} (h : Λ.lab b = .obj k) (hk : k < m) : (Λ.cut m m').lab b = .obj k := by simp [L.cut, h, hk]
theorem cut_arr {Λ : L} {m m' b k n : Nat} (h : Λ.lab b = .arr k n) (hk : k < m) : (Λ.cut m m').lab b = .arr k n := by simp [L.cut, h, hk]
theorem cut_obj_inv {Λ : L} {m m' b k : Nat} (h : (Λ.cut m m').lab b = .obj k) : Λ.lab b = .obj k ∧ k < m := by
  simp only [L.cut] at h
  cases hl : Λ.lab b with
  | fix fr => simp [hl] at h
  | obj j => simp only [hl] at h; split at h <;> simp_all
  | arr j n => simp only [hl] at h; split at h <;> simp_all
theorem cut_arr_inv {Λ : L} {m m' b k n : Nat} (h : (Λ.cut m m').lab b = .arr k n) : Λ.lab b = .arr k n ∧ k < m := by
  simp only [L.cut] at h
  cases hl : Λ.lab b with
  | fix fr => simp [hl] at h
  | obj j => simp only [hl] at h; split at h <;> simp_all
  | arr j n => simp only [hl] at h; split at h <;> simp_all
theorem cut_rd {Λ : L} {m m' b o : Nat} (h : Rd Λ.lab b o) : Rd (Λ.cut m m').lab b o := by
  unfold Rd at *
  cases hl : Λ.lab b with
  | fix fr => rw [cut_fix hl]; rw [hl] at h; exact h
  | obj j => simp [hl] at h
  | arr j n =>
    simp only [hl] at h
    simp only [L.cut, hl]
    by_cases hj : j < m <;> simp [hj, h]

theorem RepT.cut {Λ : L} {m m' : Nat} {v : Value} {x : T} (h : RepT Λ.lab Λ.w v x) : RepT (Λ.cut m m').lab (Λ.cut m m').w v x :=
  h.keep fun _ _ _ _ hr => ⟨cut_rd hr, rfl⟩

theorem RelV.cut {Λ : L} {m m' : Nat} (hm : m ≤ m') {v : Value} {x : V} (h : RelV Λ v x) (hb : x.bd m = true) : RelV (Λ.cut m m') v x := by
  induction h with
  | t h => exact .t h.cut
  | nils => exact .nils
  | @own v k sz xs h hsz hl hn ho =>
    have hk : k < m := by simpa [V.bd] using hb
    have hf : (Λ.cut m m').fro k = Λ.fro k := by simp [L.cut, hk]
    refine .own h.cut hsz (Nat.lt_of_lt_of_le hk hm) (by rw [hf]; exact hn) fun he => ?_
    rcases ho (by rw [← hf]; exact he) with ho | ⟨b, cap, arr, e, hv, hb', hh, hc, hn'⟩
    · exact .inl ho
    · exact .inr ⟨b, cap, arr, e, hv, cut_arr hb' hk, hh, hc, hn'⟩
  | @slc b k off len cap sz hl hc h => have hk : k < m := by simpa [V.bd] using hb
                                       exact .slc (Nat.lt_of_lt_of_le hk hm) hc (cut_obj h hk)
  | agg hs _ ih => exact .agg hs fun j v c h1 h2 => ih j v c h1 h2 (V.bds_at (by simpa [V.bd] using hb) j c h2)
  | tup hs _ ih => exact .tup hs fun j v c h1 h2 => ih j v c h1 h2 (V.bds_at (by simpa [V.bd] using hb) j c h2)
  | @ptr b k off hl h => have hk : k < m := by simpa [V.bd] using hb
                         exact .ptr (Nat.lt_of_lt_of_le hk hm) (cut_obj h hk)
  | @mp b k hl h => have hk : k < m := by simpa [V.bd] using hb
                    exact .mp (Nat.lt_of_lt_of_le hk hm) (cut_obj h hk)
  | fn hs h =>
    refine .fn hs fun j v c h1 h2 => ?_
    obtain ⟨b, e1, e2, e3⟩ := h j v c h1 h2
    have hk : c.1 < m := by
      simp only [V.bd, List.all_eq_true, decide_eq_true_eq] at hb
      exact hb c (List.mem_of_getElem? h2)
    exact ⟨b, e1, cut_obj e2 hk, Nat.lt_of_lt_of_le hk hm⟩
  | gd _ h' ih => exact .gd (fun hc => ih hc (by simpa [V.bd] using hb)) h'
  | top => exact .top

theorem Kp.cut {A Λ : L} {m m' : Nat} (h : Kp A Λ) (hm : A.nxt ≤ m) (hm' : m ≤ m') : Kp A (Λ.cut m m') := by
  refine ⟨⟨h.fr.os, h.fr.tape, h.fr.output, h.fr.size, fun b hb fr hl => ?_, fun b hb k fr hl o ho => ?_⟩, Nat.le_trans hm hm', fun b k hk hl => ?_, fun b k n hk hb hl hf => ?_, fun k hk => ?_⟩
  · obtain ⟨h1, h2⟩ := h.fr.fix b hb fr hl; exact ⟨cut_fix h1, h2⟩
  · obtain ⟨h1, h2⟩ := h.fr.arr b hb k fr hl o ho; exact ⟨cut_rd h1, h2⟩
  · exact cut_obj (h.obj b k hk hl) (Nat.lt_of_lt_of_le hk hm)
  · have e : (Λ.cut m m').fro k = Λ.fro k := by simp [L.cut, Nat.lt_of_lt_of_le hk hm]
    obtain ⟨h1, h2⟩ := h.own b k n hk hb hl (by rw [← e]; exact hf)
    exact ⟨cut_arr h1 (Nat.lt_of_lt_of_le hk hm), h2⟩
  · have e : (Λ.cut m m').fro k = Λ.fro k := by simp [L.cut, Nat.lt_of_lt_of_le hk hm]
    rw [e]; exact h.fro k hk

/-- Knowing less of a value: names from m up to m' are new and may be given to nil slices. -/
def LeV (m m' : Nat) (x x' : V) : Prop :=
  ∀ (Λ : L) (v : Value), (∀ k, m ≤ k → k < m' → Λ.fro k = 0) → m' ≤ Λ.nxt → RelV Λ v x → RelV Λ v x'

theorem LeV.rfl {m m' : Nat} {x : V} : LeV m m' x x := fun _ _ _ _ h => h
theorem LeV.eq {m m' : Nat} {x y : V} (e : x = y) : LeV m m' x y := fun _ _ _ _ h => e ▸ h
theorem LeV.top {m m' : Nat} {x : V} : LeV m m' x .top := fun _ _ _ _ _ => .top
theorem LeV.ownT {m m' k sz : Nat} {xs : List (List T)} : LeV m m' (.own k sz xs) (.t (.lst xs)) := fun _ _ _ _ h => by cases h; exact .t ‹_›
theorem RepT.nil {l : Nat → Lab} {w : World} : RepT l w (.slice none 0 0) (.lst []) :=
  .lst none 0 0 [] 0 0 (fun _ _ => undef) (by simp) (by simp) (by simp) (by simp) (by simp) (by simp)
theorem LeV.nilT {m m' : Nat} : LeV m m' .nils (.t (.lst [])) := fun _ _ _ _ h => by cases h; exact .t .nil
theorem LeV.nilOwn {m m' k sz : Nat} (_ : m ≤ k) (h2 : k < m') : LeV m m' .nils (.own k sz []) := fun _ _ hf hn h => by
  cases h; exact .own .nil (by simp) (by omega) (by simp) (fun _ => .inl ⟨Eq.refl _, Eq.refl _⟩)
theorem LeV.agg {m m' : Nat} {cs ds : List V} (hl : cs.length = ds.length) (h : ∀ (j : Nat) (c d : V), cs[j]? = some c → ds[j]? = some d → LeV m m' c d) : LeV m m' (.agg cs) (.agg ds) :=
  fun Λ v hf hn hr => by
    cases hr with
    | agg hs hv =>
      refine .agg (hs.trans hl) fun j u d h1 h2 => ?_
      have hlt : j < cs.length := by rw [hl]; exact (List.getElem?_eq_some_iff.1 h2).1
      exact h j cs[j] d (by simp [hlt]) h2 Λ u hf hn (hv j u _ h1 (by simp [hlt]))

/-- Knowing less, where the names from m on are forgotten and those up to m' are new. -/
def LeX (m m' : Nat) (x x' : V) : Prop := ∃ y, LeV m m x y ∧ y.bd m = true ∧ LeV m m' y x'

theorem LeX.same {m m' : Nat} {x : V} (h : x.bd m = true) : LeX m m' x x := ⟨x, .rfl, h, .rfl⟩
theorem LeX.eq {m m' : Nat} {x y : V} (e : x = y) (h : y.bd m = true) : LeX m m' x y := e ▸ ⟨x, .rfl, e ▸ h, .rfl⟩
theorem LeX.top {m m' : Nat} {x : V} : LeX m m' x .top := ⟨.top, .top, by simp [V.bd], .rfl⟩
theorem LeX.t {m m' : Nat} {x : T} : LeX m m' (.t x) (.t x) := .same (by simp [V.bd])
theorem LeX.tEq {m m' : Nat} {x y : T} (e : x = y) : LeX m m' (.t x) (.t y) := e ▸ .t
theorem LeX.ownT {m m' k sz : Nat} {xs : List (List T)} : LeX m m' (.own k sz xs) (.t (.lst xs)) := ⟨.t (.lst xs), .ownT, by simp [V.bd], .rfl⟩
theorem LeX.ownEq {m m' k sz : Nat} {xs ys : List (List T)} (e : xs = ys) (h : k < m) : LeX m m' (.own k sz xs) (.own k sz ys) := .eq (by rw [e]) (by simpa [V.bd] using h)
theorem LeX.nilT {m m' : Nat} : LeX m m' .nils (.t (.lst [])) := ⟨.nils, .rfl, by simp [V.bd], .nilT⟩
theorem LeX.nilOwn {m m' k sz : Nat} (h1 : m ≤ k) (h2 : k < m') : LeX m m' .nils (.own k sz []) := ⟨.nils, .rfl, by simp [V.bd], .nilOwn h1 h2⟩

theorem LeX.cut {m m' : Nat} (hm : m ≤ m') {x x' : V} (h : LeX m m' x x') {Λ : L} {v : Value} (hx : m ≤ Λ.nxt) (hr : RelV Λ v x) : RelV (Λ.cut m m') v x' := by
  obtain ⟨y, h1, h2, h3⟩ := h
  exact h3 _ _ (fun k hk _ => by simp [L.cut]; omega) (Nat.le_refl _) ((h1 Λ v (fun k h1 h2 => by omega) hx hr).cut hm h2)

inductive LeXs (m m' : Nat) : List V → List V → Prop
  | nil : LeXs m m' [] []
  | cons {x y : V} {xs ys : List V} (h : LeX m m' x y) (t : LeXs m m' xs ys) : LeXs m m' (x :: xs) (y :: ys)
theorem LeXs.length {m m' : Nat} {xs ys : List V} (h : LeXs m m' xs ys) : xs.length = ys.length := by
  induction h with
  | nil => rfl
  | cons _ _ ih => simp [ih]
theorem LeXs.at {m m' : Nat} {xs ys : List V} (h : LeXs m m' xs ys) : ∀ (j : Nat) (c d : V), xs[j]? = some c → ys[j]? = some d → LeX m m' c d := by
  induction h with
  | nil => intro j c d h; simp at h
  | cons h _ ih =>
    intro j c d h1 h2
    cases j with
    | zero => simp at h1 h2; subst h1; subst h2; exact h
    | succ j => exact ih j c d (by simpa using h1) (by simpa using h2)
theorem LeXs.same {m m' : Nat} : ∀ {xs : List V}, V.bds m xs = true → LeXs m m' xs xs
  | [], _ => .nil
  | x :: r, h => by simp [V.bds] at h; exact .cons (.same h.1) (.same h.2)

/-- Knowing less of an object. -/
inductive LeO (m m' : Nat) : AObj → AObj → Prop
  | cells {cs ds : List V} (h : LeXs m m' cs ds) : LeO m m' (.cells cs) (.cells ds)
  | map {a b : Bool} {es fs : List (List T × List T)} (h : es = fs) : LeO m m' (.map a b es) (.map a b fs)
  | arr {n n' : Nat} (h : n = n') : LeO m m' (.arr n) (.arr n')

/-- slots that are known afterwards -/
def LeE (m m' : Nat) (e : List (Nat × V)) : List (Nat × V) → Prop
  | [] => True
  | (t, x) :: r => LeX m m' (look e t) x ∧ LeE m m' e r

def LeS (m m' : Nat) (s : List (Nat × AObj)) : List (Nat × AObj) → Prop
  | [] => True
  | (k, o) :: r => ((k < m ∧ ∃ o', aget s k = some o' ∧ LeO m m' o' o) ∨ (m ≤ k ∧ k < m' ∧ o = .arr 0)) ∧ LeS m m' s r

theorem LeE.at {m m' : Nat} {e : List (Nat × V)} : ∀ {e' : List (Nat × V)}, LeE m m' e e' → ∀ t, LeX m m' (look e t) (look e' t)
  | [], _, t => .top
  | (k, x) :: r, h, t => by
    obtain ⟨h1, h2⟩ := h
    by_cases e' : k = t
    · subst e'; simpa [look, aget] using h1
    · have := LeE.at h2 t; simpa [look, aget, e'] using this

theorem LeS.at {m m' : Nat} {s : List (Nat × AObj)} : ∀ {s' : List (Nat × AObj)}, LeS m m' s s' → ∀ k o, aget s' k = some o →
    (k < m ∧ ∃ o', aget s k = some o' ∧ LeO m m' o' o) ∨ (m ≤ k ∧ k < m' ∧ o = .arr 0)
  | [], _, k, o, h => by simp [aget] at h
  | (j, x) :: r, h, k, o, hk => by
    obtain ⟨h1, h2⟩ := h
    by_cases e' : j = k
    · subst e'; simp [aget] at hk; subst hk; exact h1
    · simp only [aget, e', if_false] at hk; exact LeS.at h2 k o hk

theorem RelS.weak {Λ : L} {s : S} (h : RelS Λ s) {s' : S} {m m' : Nat} (hm0 : m ≤ Λ.nxt) (hm' : m ≤ m') (hs : LeS m m' s.sto s'.sto) : RelS (Λ.cut m m') s' := by
  have hnew : ∀ k, m ≤ k → k < m' → (Λ.cut m m').fro k = 0 := fun k hk _ => by simp [L.cut]; omega
  refine ⟨fun k o hk => ?_, fun b b' k h1 h2 => h.inj b b' k (cut_obj_inv h1).1 (cut_obj_inv h2).1, fun b hb => cut_fix (h.new b hb), ?_, fun k hk => by have hk' : m' ≤ k := hk; simp [L.cut]; omega⟩
  · rcases hs.at k o hk with ⟨hkm, o', ho', hle⟩ | ⟨h1, h2, rfl⟩
    · refine ⟨Nat.lt_of_lt_of_le hkm hm', ?_⟩
      have hr := (h.sto k o' ho').2
      cases hle with
      | cells hle =>
        obtain ⟨b, arr, e, e1, e2, e3, e4⟩ := hr
        refine ⟨b, arr, e, cut_obj e1 hkm, e2, by rw [e3]; exact hle.length, fun j v d a1 a2 => ?_⟩
        have hlt : j < _ := (List.getElem?_eq_some_iff.1 a2).1
        rw [← hle.length] at hlt
        have hc := List.getElem?_eq_getElem hlt
        exact (hle.at j _ d hc a2).cut hm' hm0 (e4 j v _ a1 hc)
      | map e =>
        subst e
        obtain ⟨b, ents, clock, e1, e2, e3⟩ := hr
        exact ⟨b, ents, clock, cut_obj e1 hkm, e2, e3.keep fun _ _ h => h.cut⟩
      | arr e => subst e; unfold RelO at *; simp [L.cut, hkm, hr]
    · exact ⟨h2, hnew k h1 h2⟩
  · intro b k hb
    rcases hb with hb | ⟨n, hb⟩
    · exact Nat.lt_of_lt_of_le (cut_obj_inv hb).2 hm'
    · exact Nat.lt_of_lt_of_le (cut_arr_inv hb).2 hm'

/-- Knowing less. -/
theorem Rel.weak {C : Ctx} {Λ : L} {st : St} {a : Act} (h : Rel C Λ st a) {st' : St} {m : Nat} (hm : C.Λ.nxt ≤ m) (hm0 : m ≤ Λ.nxt) (hm' : m ≤ st'.s.nxt)
    (he : LeE m st'.s.nxt st.env st'.env) (hs : LeS m st'.s.nxt st.s.sto st'.s.sto) : Rel C (Λ.cut m st'.s.nxt) st' a :=
  ⟨h.kp.cut hm hm', h.size, h.defers, fun t => (he.at t).cut hm' hm0 (h.env t), h.s.weak hm0 hm' hs⟩

end Go.GB
