/-
  GbA: pure trees (T), abstract values (V), named objects, labels of blocks, and how a value in a world stands for them. No program in sight.
-/
import Derived.Calls
import Derived.Orders
import Derived.Laws.World
namespace Go.GB

/-- Pure trees: one cell each. -/
inductive T where
  | bool (b : Bool)
  | int (k : IntKind) (n : Int)
  | str (s : List UInt8)
  | lst (xs : List (List T))
  | ptr (cs : List T)
  | fn (f : FuncId)
  | nilp
  | nilm
  | nilf

/-- Abstract values of slots and of cells of objects. A name (k) stands for an object of the abstract store, or for an array that grows. -/
inductive V where
  | t (x : T)
  | nils
  | own (k sz : Nat) (xs : List (List T))
  | slc (k off len sz : Nat)
  | agg (cs : List V)
  | tup (vs : List V)
  | ptr (k off : Nat)
  | mp (k : Nat)
  | fn (f : FuncId) (caps : List (Nat × Nat))
  | gd (c : Bool) (x : V)
  | top

/-- Abstract objects. arr: how long the array of that name is. -/
inductive AObj where
  | cells (cs : List V)
  | map (kag vag : Bool) (es : List (List T × List T))
  | arr (n : Nat)

/-- The label of a block: immutable (readable below a mark), an abstract object's, or a growing array's (immutable below the mark). -/
inductive Lab where
  | fix (fr : Option Nat)
  | obj (k : Nat)
  | arr (k fr : Nat)

/-- A world with its labels, the lengths of its growing arrays, and how many names are in use. -/
structure L where
  lab : Nat → Lab
  fro : Nat → Nat
  nxt : Nat
  w : World

/-- May a pure tree read this cell? -/
def Rd (l : Nat → Lab) (b o : Nat) : Prop :=
  match l b with
  | .fix none => True
  | .fix (some fr) => o < fr
  | .arr _ fr => o < fr
  | .obj _ => False

inductive RepT (l : Nat → Lab) (w : World) : Value → T → Prop
  | bool (b : Bool) : RepT l w (.bool b) (.bool b)
  | int (k : IntKind) (n : Int) : RepT l w (.int k n) (.int k n)
  | str (s : List UInt8) : RepT l w (.string ⟨⟨s⟩⟩) (.str s)
  | fn (f : FuncId) : RepT l w (.func (.func f) #[] #[]) (.fn f)
  | nilp : RepT l w (.pointer none) .nilp
  | nilm : RepT l w (.map none) .nilm
  | nilf : RepT l w .nilFunc .nilf
  | ptr (cs : List T) (b o : Nat) (vf : Nat → Value)
      (hr : ∀ (j : Nat) (x : T), cs[j]? = some x → Rd l b (o + j))
      (hc : ∀ (j : Nat) (x : T), cs[j]? = some x → w.cell? ⟨b, o + j, none⟩ = some (vf j))
      (h : ∀ (j : Nat) (x : T), cs[j]? = some x → RepT l w (vf j) x) :
      RepT l w (.pointer (some ⟨b, o, none⟩)) (.ptr cs)
  | lst (a : Option Addr) (cap sz : Nat) (xs : List (List T)) (b o : Nat) (vf : Nat → Nat → Value)
      (hcap : xs.length ≤ cap) (hsz : ∀ (i : Nat) (c : List T), xs[i]? = some c → c.length = sz)
      (ha : ∀ (i j : Nat) (c : List T) (x : T), xs[i]? = some c → c[j]? = some x → a = some ⟨b, o, none⟩)
      (hr : ∀ (i j : Nat) (c : List T) (x : T), xs[i]? = some c → c[j]? = some x → Rd l b (o + i * sz + j))
      (hc : ∀ (i j : Nat) (c : List T) (x : T), xs[i]? = some c → c[j]? = some x → w.cell? ⟨b, o + i * sz + j, none⟩ = some (vf i j))
      (h : ∀ (i j : Nat) (c : List T) (x : T), xs[i]? = some c → c[j]? = some x → RepT l w (vf i j) x) :
      RepT l w (.slice a xs.length cap) (.lst xs)

/-- What stays of a world and its labels. -/
structure Fr (l : Nat → Lab) (w : World) (l' : Nat → Lab) (w' : World) : Prop where
  os : w'.os = w.os
  tape : w'.tape = w.tape
  output : w'.output = w.output
  size : w.heap.size ≤ w'.heap.size
  fix : ∀ b, b < w.heap.size → ∀ fr, l b = .fix fr → l' b = .fix fr ∧ w'.heap[b]? = w.heap[b]?
  arr : ∀ b, b < w.heap.size → ∀ k fr, l b = .arr k fr → ∀ o, o < fr → Rd l' b o ∧ w'.cell? ⟨b, o, none⟩ = w.cell? ⟨b, o, none⟩

theorem cell?_heap {w w' : World} {b o : Nat} (h : w'.heap[b]? = w.heap[b]?) : w'.cell? ⟨b, o, none⟩ = w.cell? ⟨b, o, none⟩ := by
  simp [World.cell?, h]

theorem lt_of_cell {w : World} {b o : Nat} {v : Value} (h : w.cell? ⟨b, o, none⟩ = some v) : b < w.heap.size := by
  unfold World.cell? at h
  simp only at h
  cases hb : w.heap[b]? with
  | none => rw [hb] at h; simp at h
  | some x => exact (Array.getElem?_eq_some_iff.1 hb).1

theorem heap_lt {w : World} {b : Nat} {o : Obj} (h : w.heap[b]? = some o) : b < w.heap.size := (Array.getElem?_eq_some_iff.1 h).1

theorem Fr.refl (l : Nat → Lab) (w : World) : Fr l w l w :=
  ⟨rfl, rfl, rfl, Nat.le_refl _, fun _ _ _ h => ⟨h, rfl⟩, fun b _ k fr h o ho => ⟨by simp [Rd, h, ho], rfl⟩⟩

theorem Fr.step {l l' : Nat → Lab} {w w' : World} (h : Fr l w l' w') {b o : Nat} (hb : b < w.heap.size) (hr : Rd l b o) :
    Rd l' b o ∧ w'.cell? ⟨b, o, none⟩ = w.cell? ⟨b, o, none⟩ := by
  cases hl : l b with
  | fix fr =>
    have := h.fix b hb fr hl
    refine ⟨?_, cell?_heap this.2⟩
    simpa [Rd, hl, this.1] using hr
  | obj k => simp [Rd, hl] at hr
  | arr k fr =>
    have hr' : o < fr := by simpa [Rd, hl] using hr
    exact h.arr b hb k fr hl o hr'

theorem Fr.trans {l1 l2 l3 : Nat → Lab} {w1 w2 w3 : World} (h : Fr l1 w1 l2 w2) (k : Fr l2 w2 l3 w3) : Fr l1 w1 l3 w3 := by
  refine ⟨k.os.trans h.os, k.tape.trans h.tape, k.output.trans h.output, Nat.le_trans h.size k.size, ?_, ?_⟩
  · intro b hb fr hl
    obtain ⟨h1, h2⟩ := h.fix b hb fr hl
    obtain ⟨k1, k2⟩ := k.fix b (Nat.lt_of_lt_of_le hb h.size) fr h1
    exact ⟨k1, k2.trans h2⟩
  · intro b hb n fr hl o ho
    obtain ⟨h1, h2⟩ := h.arr b hb n fr hl o ho
    obtain ⟨k1, k2⟩ := k.step (Nat.lt_of_lt_of_le hb h.size) h1
    exact ⟨k1, k2.trans h2⟩

/-- All that a tree reads is still read. -/
theorem RepT.keep {l l' : Nat → Lab} {w w' : World} (hf : ∀ b o v, w.cell? ⟨b, o, none⟩ = some v → Rd l b o → Rd l' b o ∧ w'.cell? ⟨b, o, none⟩ = w.cell? ⟨b, o, none⟩) {v : Value} {x : T} (h : RepT l w v x) : RepT l' w' v x := by
  induction h with
  | bool b => exact .bool b
  | int k n => exact .int k n
  | str s => exact .str s
  | fn f => exact .fn f
  | nilp => exact .nilp
  | nilm => exact .nilm
  | nilf => exact .nilf
  | ptr cs b o vf hr hc _ ih =>
    refine .ptr cs b o vf ?_ ?_ ih
    · intro j x h; exact (hf _ _ _ (hc j x h) (hr j x h)).1
    · intro j x h; rw [(hf _ _ _ (hc j x h) (hr j x h)).2]; exact hc j x h
  | lst a cap sz xs b o vf hcap hsz ha hr hc _ ih =>
    refine .lst a cap sz xs b o vf hcap hsz ha ?_ ?_ ih
    · intro i j c x h1 h2; exact (hf _ _ _ (hc i j c x h1 h2) (hr i j c x h1 h2)).1
    · intro i j c x h1 h2; rw [(hf _ _ _ (hc i j c x h1 h2) (hr i j c x h1 h2)).2]; exact hc i j c x h1 h2

theorem RepT.mono {l l' : Nat → Lab} {w w' : World} (hf : Fr l w l' w') {v : Value} {x : T} (h : RepT l w v x) : RepT l' w' v x :=
  h.keep fun _ _ _ hc hr => hf.step (lt_of_cell hc) hr

/-- What lies behind this slice's end is free, and of the array of that name. -/
def Owned (l : Nat → Lab) (w : World) (k sz n : Nat) (v : Value) : Prop :=
  (v = .slice none 0 0 ∧ n = 0) ∨
  ∃ (b cap : Nat) (arr : Array Value) (e : TypeId), v = .slice (some ⟨b, 0, none⟩) n cap ∧ l b = .arr k (n * sz) ∧
    w.heap[b]? = some (.cells arr e (0, 0)) ∧ arr.size = cap * sz ∧ n ≤ cap

inductive RelV (Λ : L) : Value → V → Prop
  | t {v : Value} {x : T} (h : RepT Λ.lab Λ.w v x) : RelV Λ v (.t x)
  | nils : RelV Λ (.slice none 0 0) .nils
  | own {v : Value} {k sz : Nat} {xs : List (List T)} (h : RepT Λ.lab Λ.w v (.lst xs)) (hsz : ∀ (i : Nat) (c : List T), xs[i]? = some c → c.length = sz)
      (hk : k < Λ.nxt) (hn : xs.length ≤ Λ.fro k) (ho : xs.length = Λ.fro k → Owned Λ.lab Λ.w k sz xs.length v) : RelV Λ v (.own k sz xs)
  | slc {b k off len cap sz : Nat} (hk : k < Λ.nxt) (hc : len ≤ cap) (h : Λ.lab b = .obj k) : RelV Λ (.slice (some ⟨b, off, none⟩) len cap) (.slc k off len sz)
  | agg {vs : Array Value} {cs : List V} (hs : vs.size = cs.length) (h : ∀ (j : Nat) (v : Value) (c : V), vs[j]? = some v → cs[j]? = some c → RelV Λ v c) : RelV Λ (.agg vs) (.agg cs)
  | tup {vs : Array Value} {cs : List V} (hs : vs.size = cs.length) (h : ∀ (j : Nat) (v : Value) (c : V), vs[j]? = some v → cs[j]? = some c → RelV Λ v c) : RelV Λ (.tuple vs) (.tup cs)
  | ptr {b k off : Nat} (hk : k < Λ.nxt) (h : Λ.lab b = .obj k) : RelV Λ (.pointer (some ⟨b, off, none⟩)) (.ptr k off)
  | mp {b k : Nat} (hk : k < Λ.nxt) (h : Λ.lab b = .obj k) : RelV Λ (.map (some b)) (.mp k)
  | fn {f : FuncId} {vs : Array Value} {cs : List (Nat × Nat)} (hs : vs.size = cs.length)
      (h : ∀ (j : Nat) (v : Value) (c : Nat × Nat), vs[j]? = some v → cs[j]? = some c → ∃ b, v = .pointer (some ⟨b, c.2, none⟩) ∧ Λ.lab b = .obj c.1 ∧ c.1 < Λ.nxt) :
      RelV Λ (.func (.func f) #[] vs) (.fn f cs)
  | gd {v : Value} {c : Bool} {x : V} (h : c = true → RelV Λ v x) (h' : c = false → v = undef) : RelV Λ v (.gd c x)
  | top {v : Value} : RelV Λ v .top

/-- A step that keeps what is known. -/
structure Kp (Λ Λ' : L) : Prop where
  fr : Fr Λ.lab Λ.w Λ'.lab Λ'.w
  nxt : Λ.nxt ≤ Λ'.nxt
  obj : ∀ b k, k < Λ.nxt → Λ.lab b = .obj k → Λ'.lab b = .obj k
  own : ∀ b k n, k < Λ.nxt → b < Λ.w.heap.size → Λ.lab b = .arr k n → Λ'.fro k = Λ.fro k → Λ'.lab b = .arr k n ∧ Λ'.w.heap[b]? = Λ.w.heap[b]?
  fro : ∀ k, k < Λ.nxt → Λ.fro k ≤ Λ'.fro k

theorem Kp.refl (Λ : L) : Kp Λ Λ := ⟨Fr.refl _ _, Nat.le_refl _, fun _ _ _ h => h, fun _ _ _ _ _ h _ => ⟨h, rfl⟩, fun _ _ => Nat.le_refl _⟩

theorem Kp.trans {A B C : L} (h : Kp A B) (k : Kp B C) : Kp A C := by
  refine ⟨h.fr.trans k.fr, Nat.le_trans h.nxt k.nxt, fun b n hn hl => k.obj b n (Nat.lt_of_lt_of_le hn h.nxt) (h.obj b n hn hl), ?_, fun n hn => Nat.le_trans (h.fro n hn) (k.fro n (Nat.lt_of_lt_of_le hn h.nxt))⟩
  intro b n m hn hb hl hf
  have h1 := h.fro n hn
  have h2 := k.fro n (Nat.lt_of_lt_of_le hn h.nxt)
  obtain ⟨e1, e2⟩ := h.own b n m hn hb hl (by omega)
  obtain ⟨e3, e4⟩ := k.own b n m (Nat.lt_of_lt_of_le hn h.nxt) (Nat.lt_of_lt_of_le hb h.fr.size) e1 (by omega)
  exact ⟨e3, e4.trans e2⟩

theorem RelV.mono {Λ Λ' : L} (hk : Kp Λ Λ') {v : Value} {x : V} (h : RelV Λ v x) : RelV Λ' v x := by
  induction h with
  | t h => exact .t (h.mono hk.fr)
  | nils => exact .nils
  | @own v k sz xs h hsz hl hn ho =>
    have hf := hk.fro k hl
    refine .own (h.mono hk.fr) hsz (Nat.lt_of_lt_of_le hl hk.nxt) (Nat.le_trans hn hf) fun he => ?_
    rcases ho (by omega) with ho | ⟨b, cap, arr, e, hv, hb, hh, hc, hm⟩
    · exact .inl ho
    · obtain ⟨e1, e2⟩ := hk.own b k _ hl (heap_lt hh) hb (by omega)
      exact .inr ⟨b, cap, arr, e, hv, e1, by rw [e2]; exact hh, hc, hm⟩
  | slc hl hc h => exact .slc (Nat.lt_of_lt_of_le hl hk.nxt) hc (hk.obj _ _ hl h)
  | agg hs _ ih => exact .agg hs ih
  | tup hs _ ih => exact .tup hs ih
  | ptr hl h => exact .ptr (Nat.lt_of_lt_of_le hl hk.nxt) (hk.obj _ _ hl h)
  | mp hl h => exact .mp (Nat.lt_of_lt_of_le hl hk.nxt) (hk.obj _ _ hl h)
  | fn hs h => exact .fn hs fun j v c h1 h2 => let ⟨b, e1, e2, e3⟩ := h j v c h1 h2; ⟨b, e1, hk.obj _ _ e3 e2, Nat.lt_of_lt_of_le e3 hk.nxt⟩
  | gd _ h' ih => exact .gd ih h'
  | top => exact .top

end Go.GB
