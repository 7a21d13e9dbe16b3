/-
  YtpagjojfjeanlaaP0: lemmas of this proof (part 0). No conditions.
-/
import Derived.Calls
import Derived.Orders
import Derived.Laws.World
import Derived.Lib.Bytealg
import Derived.Laws.Sem
import Derived.Laws.Tables
import Derived.Laws.Cells
import Derived.Laws.Rows
import Derived.Laws.Strings
import Derived.Lib.Strings

/-
  GbA: pure trees (T), abstract values (V), named objects, labels of blocks, and how a value in a world stands for them. No program in sight.
-/
namespace Go.GB

/-- Pure trees: one cell each. -/
inductive T where
  | bool (b : Bool)
  | int (k : IntKind) (n : Int)
  | str (s : List UInt8)
  | lst (xs : List (List T))
  | ptr (cs : List T)
  | fn (f : FuncId)
  | nilp
  | nilm
  | nilf
  | ad (a : Addr) (cs : List T)

/-- Abstract values of slots and of cells of objects. A name (k) stands for an object of the abstract store, or for an array that grows. -/
inductive V where
  | t (x : T)
  | nils
  | own (k sz : Nat) (xs : List (List T))
  | slc (k off len sz : Nat)
  | agg (cs : List V)
  | tup (vs : List V)
  | ptr (k off : Nat)
  | mp (k : Nat)
  | fn (f : FuncId) (caps : List (Nat × Nat))
  | gd (c : Bool) (x : V)
  | top
  | ub (c d : Prop)
  | fpt (k i off : Nat)
  | gpt (k ver off : Nat)
  | gsl (k ver off len sz : Nat)
  | fow (k i sz : Nat) (xs : List (List T))
  | ui (k : IntKind)

/-- Abstract objects. arr: how long the array of that name is. A map's entries in their order; its clock and its entries' stamps, where they are known. -/
inductive AObj where
  | cells (cs : List V)
  | map (kag : Bool) (es : List (List T × V)) (st : Option (Nat × List Nat))
  | arr (n : Nat)
  | iter (q since : Nat) (seen : List Nat) (last : Nat)
  | gro (r : Nat) (cs : List V)
  | fobs (os : List (List V))
  | farr (ns : List Nat)
  | memo (kag : Bool) (I : List T → T → Prop)
  | abs (J : (Value → T → Prop) → (Nat → Option Obj) → (Nat → Nat → Prop) → Prop)

/-- The label of a block: immutable (readable below a mark), an abstract object's, or a growing array's (immutable below the mark). -/
inductive Lab where
  | fix (fr : Option Nat)
  | obj (k : Nat)
  | arr (k fr : Nat)
  | fob (k i : Nat)
  | far (k i fr : Nat)

/-- A world with its labels, the lengths of its growing arrays, and how many names are in use. -/
structure L where
  lab : Nat → Lab
  fro : Nat → Nat
  nxt : Nat
  w : World
  frf : Nat → Nat → Nat

/-- how many cells a block of cells has -/
def rowSize (w : World) (b : Nat) : Option Nat :=
  match w.heap[b]? with
  | some (.cells arr _ _) => some arr.size
  | _ => none

/-- May a pure tree read this cell? -/
def Rd (l : Nat → Lab) (b o : Nat) : Prop :=
  match l b with
  | .fix none => True
  | .fix (some fr) => o < fr
  | .arr _ fr => o < fr
  | .obj _ => False
  | .far _ _ fr => o < fr
  | .fob _ _ => False

inductive RepT (l : Nat → Lab) (w : World) : Value → T → Prop
  | bool (b : Bool) : RepT l w (.bool b) (.bool b)
  | int (k : IntKind) (n : Int) : RepT l w (.int k n) (.int k n)
  | str (s : List UInt8) : RepT l w (.string ⟨⟨s⟩⟩) (.str s)
  | fn (f : FuncId) : RepT l w (.func (.func f) #[] #[]) (.fn f)
  | nilp : RepT l w (.pointer none) .nilp
  | nilm : RepT l w (.map none) .nilm
  | nilf : RepT l w .nilFunc .nilf
  | ptr (cs : List T) (b o : Nat) (vf : Nat → Value)
      (hr : ∀ (j : Nat) (x : T), cs[j]? = some x → Rd l b (o + j))
      (hc : ∀ (j : Nat) (x : T), cs[j]? = some x → w.cell? ⟨b, o + j, none⟩ = some (vf j))
      (h : ∀ (j : Nat) (x : T), cs[j]? = some x → RepT l w (vf j) x) :
      RepT l w (.pointer (some ⟨b, o, none⟩)) (.ptr cs)
  | ad (cs : List T) (b o : Nat) (vf : Nat → Value)
      (hr : ∀ (j : Nat) (x : T), cs[j]? = some x → Rd l b (o + j))
      (hc : ∀ (j : Nat) (x : T), cs[j]? = some x → w.cell? ⟨b, o + j, none⟩ = some (vf j))
      (h : ∀ (j : Nat) (x : T), cs[j]? = some x → RepT l w (vf j) x) :
      RepT l w (.pointer (some ⟨b, o, none⟩)) (.ad ⟨b, o, none⟩ cs)
  | lst (a : Option Addr) (cap sz : Nat) (xs : List (List T)) (b o : Nat) (vf : Nat → Nat → Value)
      (hcap : xs.length ≤ cap) (hsz : ∀ (i : Nat) (c : List T), xs[i]? = some c → c.length = sz)
      (ha : ∀ (i j : Nat) (c : List T) (x : T), xs[i]? = some c → c[j]? = some x → a = some ⟨b, o, none⟩)
      (hr : ∀ (i j : Nat) (c : List T) (x : T), xs[i]? = some c → c[j]? = some x → Rd l b (o + i * sz + j))
      (hc : ∀ (i j : Nat) (c : List T) (x : T), xs[i]? = some c → c[j]? = some x → w.cell? ⟨b, o + i * sz + j, none⟩ = some (vf i j))
      (h : ∀ (i j : Nat) (c : List T) (x : T), xs[i]? = some c → c[j]? = some x → RepT l w (vf i j) x) :
      RepT l w (.slice a xs.length cap) (.lst xs)

/-- What stays of a world and its labels. -/
structure Fr (l : Nat → Lab) (w : World) (l' : Nat → Lab) (w' : World) : Prop where
  os : w'.os = w.os
  tape : w'.tape = w.tape
  output : w'.output = w.output
  size : w.heap.size ≤ w'.heap.size
  fix : ∀ b, b < w.heap.size → ∀ fr, l b = .fix fr → l' b = .fix fr ∧ w'.heap[b]? = w.heap[b]?
  arr : ∀ b, b < w.heap.size → ∀ k fr, l b = .arr k fr → ∀ o, o < fr → Rd l' b o ∧ w'.cell? ⟨b, o, none⟩ = w.cell? ⟨b, o, none⟩
  far : ∀ b, b < w.heap.size → ∀ k i fr, l b = .far k i fr → ∀ o, o < fr → Rd l' b o ∧ w'.cell? ⟨b, o, none⟩ = w.cell? ⟨b, o, none⟩

theorem cell?_heap {w w' : World} {b o : Nat} (h : w'.heap[b]? = w.heap[b]?) : w'.cell? ⟨b, o, none⟩ = w.cell? ⟨b, o, none⟩ := by
  simp [World.cell?, h]

theorem lt_of_cell {w : World} {b o : Nat} {v : Value} (h : w.cell? ⟨b, o, none⟩ = some v) : b < w.heap.size := by
  unfold World.cell? at h
  simp only at h
  cases hb : w.heap[b]? with
  | none => rw [hb] at h; simp at h
  | some x => exact (Array.getElem?_eq_some_iff.1 hb).1

theorem heap_lt {w : World} {b : Nat} {o : Obj} (h : w.heap[b]? = some o) : b < w.heap.size := (Array.getElem?_eq_some_iff.1 h).1

theorem Fr.refl (l : Nat → Lab) (w : World) : Fr l w l w :=
  ⟨rfl, rfl, rfl, Nat.le_refl _, fun _ _ _ h => ⟨h, rfl⟩, fun b _ k fr h o ho => ⟨by simp [Rd, h, ho], rfl⟩, fun b _ k i fr h o ho => ⟨by simp [Rd, h, ho], rfl⟩⟩

theorem Fr.step {l l' : Nat → Lab} {w w' : World} (h : Fr l w l' w') {b o : Nat} (hb : b < w.heap.size) (hr : Rd l b o) :
    Rd l' b o ∧ w'.cell? ⟨b, o, none⟩ = w.cell? ⟨b, o, none⟩ := by
  cases hl : l b with
  | fix fr =>
    have := h.fix b hb fr hl
    refine ⟨?_, cell?_heap this.2⟩
    simpa [Rd, hl, this.1] using hr
  | obj k => simp [Rd, hl] at hr
  | arr k fr =>
    have hr' : o < fr := by simpa [Rd, hl] using hr
    exact h.arr b hb k fr hl o hr'
  | fob k i => simp [Rd, hl] at hr
  | far k i fr =>
    have hr' : o < fr := by simpa [Rd, hl] using hr
    exact h.far b hb k i fr hl o hr'

theorem Fr.trans {l1 l2 l3 : Nat → Lab} {w1 w2 w3 : World} (h : Fr l1 w1 l2 w2) (k : Fr l2 w2 l3 w3) : Fr l1 w1 l3 w3 := by
  refine ⟨k.os.trans h.os, k.tape.trans h.tape, k.output.trans h.output, Nat.le_trans h.size k.size, ?_, ?_, ?_⟩
  · intro b hb fr hl
    obtain ⟨h1, h2⟩ := h.fix b hb fr hl
    obtain ⟨k1, k2⟩ := k.fix b (Nat.lt_of_lt_of_le hb h.size) fr h1
    exact ⟨k1, k2.trans h2⟩
  · intro b hb n fr hl o ho
    obtain ⟨h1, h2⟩ := h.arr b hb n fr hl o ho
    obtain ⟨k1, k2⟩ := k.step (Nat.lt_of_lt_of_le hb h.size) h1
    exact ⟨k1, k2.trans h2⟩
  · intro b hb n i fr hl o ho
    obtain ⟨h1, h2⟩ := h.far b hb n i fr hl o ho
    obtain ⟨k1, k2⟩ := k.step (Nat.lt_of_lt_of_le hb h.size) h1
    exact ⟨k1, k2.trans h2⟩

/-- All that a tree reads is still read. -/
theorem RepT.keep {l l' : Nat → Lab} {w w' : World} (hf : ∀ b o v, w.cell? ⟨b, o, none⟩ = some v → Rd l b o → Rd l' b o ∧ w'.cell? ⟨b, o, none⟩ = w.cell? ⟨b, o, none⟩) {v : Value} {x : T} (h : RepT l w v x) : RepT l' w' v x := by
  induction h with
  | bool b => exact .bool b
  | int k n => exact .int k n
  | str s => exact .str s
  | fn f => exact .fn f
  | nilp => exact .nilp
  | nilm => exact .nilm
  | nilf => exact .nilf
  | ptr cs b o vf hr hc _ ih =>
    refine .ptr cs b o vf ?_ ?_ ih
    · intro j x h; exact (hf _ _ _ (hc j x h) (hr j x h)).1
    · intro j x h; rw [(hf _ _ _ (hc j x h) (hr j x h)).2]; exact hc j x h
  | ad cs b o vf hr hc _ ih =>
    refine .ad cs b o vf ?_ ?_ ih
    · intro j x h; exact (hf _ _ _ (hc j x h) (hr j x h)).1
    · intro j x h; rw [(hf _ _ _ (hc j x h) (hr j x h)).2]; exact hc j x h
  | lst a cap sz xs b o vf hcap hsz ha hr hc _ ih =>
    refine .lst a cap sz xs b o vf hcap hsz ha ?_ ?_ ih
    · intro i j c x h1 h2; exact (hf _ _ _ (hc i j c x h1 h2) (hr i j c x h1 h2)).1
    · intro i j c x h1 h2; rw [(hf _ _ _ (hc i j c x h1 h2) (hr i j c x h1 h2)).2]; exact hc i j c x h1 h2

theorem RepT.mono {l l' : Nat → Lab} {w w' : World} (hf : Fr l w l' w') {v : Value} {x : T} (h : RepT l w v x) : RepT l' w' v x :=
  h.keep fun _ _ _ hc hr => hf.step (lt_of_cell hc) hr

/-- What lies behind this slice's end is free, and of the array of that name. -/
def Owned (l : Nat → Lab) (w : World) (k sz n : Nat) (v : Value) : Prop :=
  ((∃ a : Option Addr, v = .slice a 0 0) ∧ n = 0) ∨
  ∃ (b cap : Nat) (arr : Array Value) (e : TypeId), v = .slice (some ⟨b, 0, none⟩) n cap ∧ l b = .arr k (n * sz) ∧
    w.heap[b]? = some (.cells arr e (0, 0)) ∧ arr.size = cap * sz ∧ n ≤ cap

/-- the same of the i-th array of a family -/
def FOwned (l : Nat → Lab) (w : World) (k i sz n : Nat) (v : Value) : Prop :=
  ((∃ a : Option Addr, v = .slice a 0 0) ∧ n = 0) ∨
  ∃ (b cap : Nat) (arr : Array Value) (e : TypeId), v = .slice (some ⟨b, 0, none⟩) n cap ∧ l b = .far k i (n * sz) ∧
    w.heap[b]? = some (.cells arr e (0, 0)) ∧ arr.size = cap * sz ∧ n ≤ cap
/-- a growing array's block: the last one -/
def GCur (l : Nat → Lab) (k b : Nat) : Prop := ∃ i, l b = .fob k i ∧ ∀ b' i', l b' = .fob k i' → i' ≤ i
/-- a slice of a growing array's block -/
def GSlice (l : Nat → Lab) (w : World) (k off len sz : Nat) (v : Value) : Prop :=
  ((∃ a : Option Addr, v = .slice a 0 0) ∧ len = 0) ∨
  ∃ (b cap N : Nat), v = .slice (some ⟨b, off, none⟩) len cap ∧ len ≤ cap ∧ GCur l k b ∧ rowSize w b = some N ∧ off + cap * sz = N

inductive RelV (Λ : L) : Value → V → Prop
  | t {v : Value} {x : T} (h : RepT Λ.lab Λ.w v x) : RelV Λ v (.t x)
  | nils {a : Option Addr} : RelV Λ (.slice a 0 0) .nils
  | own {v : Value} {k sz : Nat} {xs : List (List T)} (h : RepT Λ.lab Λ.w v (.lst xs)) (hsz : ∀ (i : Nat) (c : List T), xs[i]? = some c → c.length = sz)
      (hk : k < Λ.nxt) (hn : xs.length ≤ Λ.fro k) (ho : xs.length = Λ.fro k → Owned Λ.lab Λ.w k sz xs.length v) : RelV Λ v (.own k sz xs)
  | slc {b k off len cap sz : Nat} (hk : k < Λ.nxt) (hc : len ≤ cap) (h : Λ.lab b = .obj k) : RelV Λ (.slice (some ⟨b, off, none⟩) len cap) (.slc k off len sz)
  | agg {vs : Array Value} {cs : List V} (hs : vs.size = cs.length) (h : ∀ (j : Nat) (v : Value) (c : V), vs[j]? = some v → cs[j]? = some c → RelV Λ v c) : RelV Λ (.agg vs) (.agg cs)
  | tup {vs : Array Value} {cs : List V} (hs : vs.size = cs.length) (h : ∀ (j : Nat) (v : Value) (c : V), vs[j]? = some v → cs[j]? = some c → RelV Λ v c) : RelV Λ (.tuple vs) (.tup cs)
  | ptr {b k off : Nat} (hk : k < Λ.nxt) (h : Λ.lab b = .obj k) : RelV Λ (.pointer (some ⟨b, off, none⟩)) (.ptr k off)
  | mp {b k : Nat} (hk : k < Λ.nxt) (h : Λ.lab b = .obj k) : RelV Λ (.map (some b)) (.mp k)
  | fn {f : FuncId} {vs : Array Value} {cs : List (Nat × Nat)} (hs : vs.size = cs.length)
      (h : ∀ (j : Nat) (v : Value) (c : Nat × Nat), vs[j]? = some v → cs[j]? = some c → ∃ b, v = .pointer (some ⟨b, c.2, none⟩) ∧ Λ.lab b = .obj c.1 ∧ c.1 < Λ.nxt) :
      RelV Λ (.func (.func f) #[] vs) (.fn f cs)
  | gd {v : Value} {c : Bool} {x : V} (h : c = true → RelV Λ v x) (h' : c = false → v = undef) : RelV Λ v (.gd c x)
  | top {v : Value} : RelV Λ v .top
  | ui {k : IntKind} {n : Int} : RelV Λ (.int k n) (.ui k)
  | ub {b : Bool} {c d : Prop} (h : b = true → c) (h' : b = false → d) : RelV Λ (.bool b) (.ub c d)
  | fpt {b k i off : Nat} (hk : k < Λ.nxt) (h : Λ.lab b = .fob k i) : RelV Λ (.pointer (some ⟨b, off, none⟩)) (.fpt k i off)
  | gpt {v : Value} {k ver off : Nat} (hv : ∃ a, v = .pointer a) (hk : k < Λ.nxt) (hn : 0 < ver ∧ ver ≤ Λ.frf k 0) (h : ver = Λ.frf k 0 → ∃ b, v = .pointer (some ⟨b, off, none⟩) ∧ GCur Λ.lab k b) : RelV Λ v (.gpt k ver off)
  | gsl {v : Value} {k ver off len sz : Nat} (hv : ∃ a n c, v = .slice a n c) (hk : k < Λ.nxt) (hn : (ver = 0 → (∃ a : Option Addr, v = .slice a 0 0) ∧ len = 0) ∧ ver ≤ Λ.frf k 0) (h : ver = Λ.frf k 0 → GSlice Λ.lab Λ.w k off len sz v) : RelV Λ v (.gsl k ver off len sz)
  | fow {v : Value} {k i sz : Nat} {xs : List (List T)} (h : RepT Λ.lab Λ.w v (.lst xs)) (hsz : ∀ (i : Nat) (c : List T), xs[i]? = some c → c.length = sz)
      (hk : k < Λ.nxt) (hn : xs.length ≤ Λ.frf k i) (ho : xs.length = Λ.frf k i → FOwned Λ.lab Λ.w k i sz xs.length v) : RelV Λ v (.fow k i sz xs)

/-- A step that keeps what is known. -/
structure Kp (Λ Λ' : L) : Prop where
  fr : Fr Λ.lab Λ.w Λ'.lab Λ'.w
  nxt : Λ.nxt ≤ Λ'.nxt
  obj : ∀ b k, k < Λ.nxt → Λ.lab b = .obj k → Λ'.lab b = .obj k
  own : ∀ b k n, k < Λ.nxt → b < Λ.w.heap.size → Λ.lab b = .arr k n → Λ'.fro k = Λ.fro k → Λ'.lab b = .arr k n ∧ Λ'.w.heap[b]? = Λ.w.heap[b]?
  fro : ∀ k, k < Λ.nxt → Λ.fro k ≤ Λ'.fro k
  fob : ∀ b k i, k < Λ.nxt → Λ.lab b = .fob k i → Λ'.lab b = .fob k i ∧ ∀ N, rowSize Λ.w b = some N → rowSize Λ'.w b = some N
  far : ∀ b k i n, k < Λ.nxt → b < Λ.w.heap.size → Λ.lab b = .far k i n → Λ'.frf k i = Λ.frf k i → Λ'.lab b = .far k i n ∧ Λ'.w.heap[b]? = Λ.w.heap[b]?
  frf : ∀ k i, k < Λ.nxt → Λ.frf k i ≤ Λ'.frf k i
  fobN : ∀ b k i, k < Λ.nxt → 0 < Λ.frf k 0 → Λ'.frf k 0 = Λ.frf k 0 → Λ'.lab b = .fob k i → Λ.lab b = .fob k i

theorem Kp.refl (Λ : L) : Kp Λ Λ := ⟨Fr.refl _ _, Nat.le_refl _, fun _ _ _ h => h, fun _ _ _ _ _ h _ => ⟨h, rfl⟩, fun _ _ => Nat.le_refl _, fun _ _ _ _ h => ⟨h, fun _ h => h⟩, fun _ _ _ _ _ _ h _ => ⟨h, rfl⟩, fun _ _ _ => Nat.le_refl _, fun _ _ _ _ _ _ h => h⟩

theorem Kp.trans {A B C : L} (h : Kp A B) (k : Kp B C) : Kp A C := by
  refine ⟨h.fr.trans k.fr, Nat.le_trans h.nxt k.nxt, fun b n hn hl => k.obj b n (Nat.lt_of_lt_of_le hn h.nxt) (h.obj b n hn hl), ?_, fun n hn => Nat.le_trans (h.fro n hn) (k.fro n (Nat.lt_of_lt_of_le hn h.nxt)), fun b n i hn hl => ?_, ?_, fun n i hn => Nat.le_trans (h.frf n i hn) (k.frf n i (Nat.lt_of_lt_of_le hn h.nxt)), fun b n i hn hp hf hl => ?_⟩
  rotate_left
  · obtain ⟨a1, a2⟩ := h.fob b n i hn hl
    obtain ⟨b1, b2⟩ := k.fob b n i (Nat.lt_of_lt_of_le hn h.nxt) a1
    exact ⟨b1, fun N hN => b2 N (a2 N hN)⟩
  · intro b n i m hn hb hl hf
    have h1 := h.frf n i hn
    have h2 := k.frf n i (Nat.lt_of_lt_of_le hn h.nxt)
    obtain ⟨e1, e2⟩ := h.far b n i m hn hb hl (by omega)
    obtain ⟨e3, e4⟩ := k.far b n i m (Nat.lt_of_lt_of_le hn h.nxt) (Nat.lt_of_lt_of_le hb h.fr.size) e1 (by omega)
    exact ⟨e3, e4.trans e2⟩
  · have h1 := h.frf n 0 hn
    have h2 := k.frf n 0 (Nat.lt_of_lt_of_le hn h.nxt)
    exact h.fobN b n i hn hp (by omega) (k.fobN b n i (Nat.lt_of_lt_of_le hn h.nxt) (by omega) (by omega) hl)
  intro b n m hn hb hl hf
  have h1 := h.fro n hn
  have h2 := k.fro n (Nat.lt_of_lt_of_le hn h.nxt)
  obtain ⟨e1, e2⟩ := h.own b n m hn hb hl (by omega)
  obtain ⟨e3, e4⟩ := k.own b n m (Nat.lt_of_lt_of_le hn h.nxt) (Nat.lt_of_lt_of_le hb h.fr.size) e1 (by omega)
  exact ⟨e3, e4.trans e2⟩

theorem RelV.mono {Λ Λ' : L} (hk : Kp Λ Λ') {v : Value} {x : V} (h : RelV Λ v x) : RelV Λ' v x := by
  induction h with
  | t h => exact .t (h.mono hk.fr)
  | nils => exact .nils
  | @own v k sz xs h hsz hl hn ho =>
    have hf := hk.fro k hl
    refine .own (h.mono hk.fr) hsz (Nat.lt_of_lt_of_le hl hk.nxt) (Nat.le_trans hn hf) fun he => ?_
    rcases ho (by omega) with ho | ⟨b, cap, arr, e, hv, hb, hh, hc, hm⟩
    · exact .inl ho
    · obtain ⟨e1, e2⟩ := hk.own b k _ hl (heap_lt hh) hb (by omega)
      exact .inr ⟨b, cap, arr, e, hv, e1, by rw [e2]; exact hh, hc, hm⟩
  | slc hl hc h => exact .slc (Nat.lt_of_lt_of_le hl hk.nxt) hc (hk.obj _ _ hl h)
  | agg hs _ ih => exact .agg hs ih
  | tup hs _ ih => exact .tup hs ih
  | ptr hl h => exact .ptr (Nat.lt_of_lt_of_le hl hk.nxt) (hk.obj _ _ hl h)
  | mp hl h => exact .mp (Nat.lt_of_lt_of_le hl hk.nxt) (hk.obj _ _ hl h)
  | fn hs h => exact .fn hs fun j v c h1 h2 => let ⟨b, e1, e2, e3⟩ := h j v c h1 h2; ⟨b, e1, hk.obj _ _ e3 e2, Nat.lt_of_lt_of_le e3 hk.nxt⟩
  | gd _ h' ih => exact .gd ih h'
  | top => exact .top
  | ui => exact .ui
  | ub h h' => exact .ub h h'
  | fpt hl h => exact .fpt (Nat.lt_of_lt_of_le hl hk.nxt) (hk.fob _ _ _ hl h).1
  | @gpt v k ver off hv hl hn h =>
    have hf := hk.frf k 0 hl
    obtain ⟨hp, hn⟩ := hn
    refine .gpt hv (Nat.lt_of_lt_of_le hl hk.nxt) ⟨hp, Nat.le_trans hn hf⟩ fun he => ?_
    obtain ⟨b, e1, i, e2, e3⟩ := h (by omega)
    exact ⟨b, e1, i, (hk.fob _ _ _ hl e2).1, fun b' i' h' => e3 b' i' (hk.fobN b' k i' hl (by omega) (by omega) h')⟩
  | @gsl v k ver off len sz hv hl hn h =>
    have hf := hk.frf k 0 hl
    obtain ⟨hp, hn⟩ := hn
    refine .gsl hv (Nat.lt_of_lt_of_le hl hk.nxt) ⟨hp, Nat.le_trans hn hf⟩ fun he => ?_
    by_cases h0 : ver = 0
    · exact .inl (hp h0)
    rcases h (by omega) with h | ⟨b, cap, N, hv, hc, ⟨i, e2, e3⟩, hN, he'⟩
    · exact .inl h
    · obtain ⟨e1, e4⟩ := hk.fob _ _ _ hl e2
      exact .inr ⟨b, cap, N, hv, hc, ⟨i, e1, fun b' i' h' => e3 b' i' (hk.fobN b' k i' hl (by omega) (by omega) h')⟩, e4 N hN, he'⟩
  | @fow v k i sz xs h hsz hl hn ho =>
    have hf := hk.frf k i hl
    refine .fow (h.mono hk.fr) hsz (Nat.lt_of_lt_of_le hl hk.nxt) (Nat.le_trans hn hf) fun he => ?_
    rcases ho (by omega) with ho | ⟨b, cap, arr, e, hv, hb, hh, hc, hm⟩
    · exact .inl ho
    · obtain ⟨e1, e2⟩ := hk.far b k i _ hl (heap_lt hh) hb (by omega)
      exact .inr ⟨b, cap, arr, e, hv, e1, by rw [e2]; exact hh, hc, hm⟩

end Go.GB


/-
  GbB: abstract stores and states, their relation to worlds and frames, and how it is kept.
-/
namespace Go.GB

/-- association lists -/
def aget {α : Type} : List (Nat × α) → Nat → Option α
  | [], _ => none
  | (k, x) :: r, t => if k = t then some x else aget r t
def aset {α : Type} : List (Nat × α) → Nat → α → List (Nat × α)
  | [], d, v => [(d, v)]
  | (k, x) :: r, d, v => if k = d then (k, v) :: r else (k, x) :: aset r d v

theorem aget_aset {α : Type} (e : List (Nat × α)) (d : Nat) (v : α) (t : Nat) : aget (aset e d v) t = if d = t then some v else aget e t := by
  induction e with
  | nil => simp [aset, aget]
  | cons h r ih =>
    obtain ⟨k, x⟩ := h
    by_cases h1 : k = d
    · subst h1; simp only [aset, if_true, aget]; by_cases h : k = t <;> simp [h]
    · simp only [aset, h1, if_false, aget, ih]
      by_cases h3 : k = t
      · subst h3; simp [Ne.symm h1]
      · simp [h3]

def look (e : List (Nat × V)) (t : Nat) : V := (aget e t).getD .top

theorem look_aset (e : List (Nat × V)) (d : Nat) (v : V) (t : Nat) : look (aset e d v) t = if d = t then v else look e t := by
  unfold look; rw [aget_aset]; split <;> rfl

/-- a value of one cell or an aggregate reads as these trees -/
def RepA (l : Nat → Lab) (w : World) (ag : Bool) (v : Value) (cs : List T) : Prop :=
  if ag then ∃ vs : Array Value, v = .agg vs ∧ vs.size = cs.length ∧ ∀ (j : Nat) (u : Value) (x : T), vs[j]? = some u → cs[j]? = some x → RepT l w u x
  else ∃ x, cs = [x] ∧ RepT l w v x

theorem RepA.keep {l l' : Nat → Lab} {w w' : World} (hf : ∀ v x, RepT l w v x → RepT l' w' v x) {ag : Bool} {v : Value} {cs : List T} (h : RepA l w ag v cs) : RepA l' w' ag v cs := by
  unfold RepA at *
  cases ag with
  | true => obtain ⟨vs, h1, h2, h3⟩ := h; exact ⟨vs, h1, h2, fun j u x a b => hf _ _ (h3 j u x a b)⟩
  | false => obtain ⟨x, h1, h2⟩ := h; exact ⟨x, h1, hf _ _ h2⟩

/-- a map's entries read as these pairs -/
structure RepM (Λ : L) (kag : Bool) (ents : Array MapEntry) (clock : Nat) (es : List (List T × V)) (st : Option (Nat × List Nat)) : Prop where
  size : ents.size = es.length
  at_ : ∀ (i : Nat) (e : MapEntry) (kv : List T × V), ents[i]? = some e → es[i]? = some kv → RepA Λ.lab Λ.w kag e.key kv.1 ∧ RelV Λ e.val kv.2
  born : ∀ (i : Nat) (e : MapEntry), ents[i]? = some e → e.born < clock
  apart : ∀ (i j : Nat) (e f : MapEntry), ents[i]? = some e → ents[j]? = some f → e.born = f.born → i = j
  known : ∀ (c : Nat) (bs : List Nat), st = some (c, bs) → clock = c ∧ ents.toList.map (·.born) = bs

theorem RepM.keep {Λ Λ' : L} (hf : ∀ v x, RepT Λ.lab Λ.w v x → RepT Λ'.lab Λ'.w v x) {kag : Bool} {ents : Array MapEntry} {clock : Nat} {es : List (List T × V)} {st : Option (Nat × List Nat)}
    (hg : ∀ (i : Nat) (kv : List T × V) (v : Value), es[i]? = some kv → RelV Λ v kv.2 → RelV Λ' v kv.2)
    (h : RepM Λ kag ents clock es st) : RepM Λ' kag ents clock es st :=
  ⟨h.size, fun i e kv a b => ⟨(h.at_ i e kv a b).1.keep hf, hg i kv _ b (h.at_ i e kv a b).2⟩, h.born, h.apart, h.known⟩

/-- an object known by a property of its own blocks and of the trees in them, whatever happens elsewhere -/
def AbsMono (J : (Value → T → Prop) → (Nat → Option Obj) → (Nat → Nat → Prop) → Prop) : Prop :=
  ∀ (R R' : Value → T → Prop) (H H' : Nat → Option Obj) (own own' : Nat → Nat → Prop), (∀ v x, R v x → R' v x) → (∀ b i, own b i ↔ own' b i) → (∀ b i, own b i → H' b = H b) → J R H own → J R' H' own'

def RelO (Λ : L) (k : Nat) : AObj → Prop
  | .cells cs => ∃ (b : Nat) (arr : Array Value) (e : TypeId), Λ.lab b = .obj k ∧ Λ.w.heap[b]? = some (.cells arr e (0, 0)) ∧ arr.size = cs.length ∧
      ∀ (j : Nat) (v : Value) (c : V), arr[j]? = some v → cs[j]? = some c → RelV Λ v c
  | .map kag es st => ∃ (b : Nat) (ents : Array MapEntry) (clock : Nat), Λ.lab b = .obj k ∧ Λ.w.heap[b]? = some (.map ents clock) ∧ RepM Λ kag ents clock es st
  | .arr n => Λ.fro k = n
  | .iter q s seen c => ∃ (b bm : Nat), Λ.lab b = .obj k ∧ Λ.w.heap[b]? = some (.mapIter (some bm) s seen.toArray c) ∧ Λ.lab bm = .obj q ∧ q < Λ.nxt
  | .gro ver cs => Λ.frf k 0 = ver ∧ ((cs = [] ∧ ∀ b i, Λ.lab b ≠ .fob k i) ∨ ∃ (b : Nat) (arr : Array Value) (e : TypeId), GCur Λ.lab k b ∧ Λ.w.heap[b]? = some (.cells arr e (0, 0)) ∧ cs.length ≤ arr.size ∧
      ∀ (j : Nat) (v : Value) (c : V), arr[j]? = some v → cs[j]? = some c → RelV Λ v c)
  | .fobs os => (∀ b i, Λ.lab b = .fob k i → i < os.length) ∧ ∀ (i : Nat) (cs : List V), os[i]? = some cs → ∃ (b : Nat) (arr : Array Value) (e : TypeId), Λ.lab b = .fob k i ∧ Λ.w.heap[b]? = some (.cells arr e (0, 0)) ∧ arr.size = cs.length ∧
      ∀ (j : Nat) (v : Value) (c : V), arr[j]? = some v → cs[j]? = some c → RelV Λ v c
  | .farr ns => ∀ i, Λ.frf k i = (ns[i]?).getD 0
  | .memo kag I => ∃ (b : Nat) (ents : Array MapEntry) (clock : Nat), Λ.lab b = .obj k ∧ Λ.w.heap[b]? = some (.map ents clock) ∧ (∀ (i : Nat) (e : MapEntry), ents[i]? = some e → e.born < clock) ∧
      (∀ (i j : Nat) (e f : MapEntry), ents[i]? = some e → ents[j]? = some f → e.born = f.born → i = j) ∧ ∀ (i : Nat) (e : MapEntry), ents[i]? = some e → ∃ cs x, RepA Λ.lab Λ.w kag e.key cs ∧ RepT Λ.lab Λ.w e.val x ∧ I cs x
  | .abs J => AbsMono J ∧ Λ.frf k 0 = 0 ∧ J (RepT Λ.lab Λ.w) (fun b => Λ.w.heap[b]?) (fun b i => Λ.lab b = .fob k i)

/-- Abstract stores. -/
structure S where
  sto : List (Nat × AObj)
  nxt : Nat

structure RelS (Λ : L) (s : S) : Prop where
  sto : ∀ (k : Nat) (o : AObj), aget s.sto k = some o → k < Λ.nxt ∧ RelO Λ k o
  inj : ∀ b b' k, Λ.lab b = .obj k → Λ.lab b' = .obj k → b = b'
  new : ∀ b, Λ.w.heap.size ≤ b → Λ.lab b = .fix none
  bnd : ∀ b k, (Λ.lab b = .obj k ∨ ∃ n, Λ.lab b = .arr k n) → k < Λ.nxt
  frz : ∀ k, Λ.nxt ≤ k → Λ.fro k = 0
  injF : ∀ b b' k i, Λ.lab b = .fob k i → Λ.lab b' = .fob k i → b = b'
  bndF : ∀ b k, ((∃ i, Λ.lab b = .fob k i) ∨ ∃ i n, Λ.lab b = .far k i n) → k < Λ.nxt
  frzF : ∀ k i, Λ.nxt ≤ k → Λ.frf k i = 0

/-- Abstract states. -/
structure St where
  env : List (Nat × V)
  s : S

structure Ctx where
  P : Program
  n : Nat
  Λ : L

structure Rel (C : Ctx) (Λ : L) (st : St) (a : Act) : Prop where
  kp : Kp C.Λ Λ
  size : a.tmps.size = C.n
  defers : a.defers = []
  env : ∀ t, RelV Λ (a.tmps.getD t undef) (look st.env t)
  s : RelS Λ st.s

theorem getD_put (a : Act) (d : Nat) (v : Value) (t : Nat) (h : d < a.tmps.size) :
    (a.put (some d) v).tmps.getD t undef = if d = t then v else a.tmps.getD t undef := by
  unfold Act.put
  simp only [Array.getD_eq_getD_getElem?, Array.getElem?_setIfInBounds]
  by_cases e : d = t
  · subst e; simp [h]
  · simp [e]

theorem put_size (a : Act) (d : Option Nat) (v : Value) : (a.put d v).tmps.size = a.tmps.size := by
  cases d <;> simp [Act.put]

/-- objects that no step has touched -/
theorem RelO.mono {Λ Λ' : L} (hk : Kp Λ Λ') {k : Nat} {o : AObj} (hl : k < Λ.nxt) (hb : ∀ b, Λ.lab b = .obj k → Λ'.w.heap[b]? = Λ.w.heap[b]?) (hf : Λ'.fro k = Λ.fro k)
    (hb2 : ∀ b i, Λ.lab b = .fob k i → Λ'.w.heap[b]? = Λ.w.heap[b]?) (hb3 : ∀ b i, Λ'.lab b = .fob k i → Λ.lab b = .fob k i) (hf2 : ∀ i, Λ'.frf k i = Λ.frf k i) (h : RelO Λ k o) : RelO Λ' k o := by
  cases o with
  | cells cs =>
    obtain ⟨b, arr, e, h1, h2, h3, h4⟩ := h
    exact ⟨b, arr, e, hk.obj _ _ hl h1, by rw [hb b h1]; exact h2, h3, fun j v c a1 a2 => (h4 j v c a1 a2).mono hk⟩
  | map kag es st =>
    obtain ⟨b, ents, clock, h1, h2, h3⟩ := h
    exact ⟨b, ents, clock, hk.obj _ _ hl h1, by rw [hb b h1]; exact h2, h3.keep (fun _ _ h => h.mono hk.fr) (fun _ _ _ _ h => h.mono hk)⟩
  | arr n => unfold RelO at *; rw [hf]; exact h
  | iter q s seen c =>
    obtain ⟨b, bm, h1, h2, h3, h4⟩ := h
    exact ⟨b, bm, hk.obj _ _ hl h1, by rw [hb b h1]; exact h2, hk.obj _ _ h4 h3, Nat.lt_of_lt_of_le h4 hk.nxt⟩
  | gro r cs =>
    obtain ⟨h0, h⟩ := h
    refine ⟨(hf2 0).trans h0, ?_⟩
    rcases h with ⟨h1, h2⟩ | ⟨b, arr, e, ⟨i, h1, h1'⟩, h2, h3, h4⟩
    · exact .inl ⟨h1, fun b i hbr => h2 b i (hb3 b i hbr)⟩
    · exact .inr ⟨b, arr, e, ⟨i, (hk.fob _ _ _ hl h1).1, fun b' i' h' => h1' b' i' (hb3 b' i' h')⟩, by rw [hb2 b i h1]; exact h2, h3, fun j v c a1 a2 => (h4 j v c a1 a2).mono hk⟩
  | fobs os =>
    obtain ⟨h0, h⟩ := h
    refine ⟨fun b i hbi => h0 b i (hb3 b i hbi), fun i cs hi => ?_⟩
    obtain ⟨b, arr, e, h1, h2, h3, h4⟩ := h i cs hi
    exact ⟨b, arr, e, (hk.fob _ _ _ hl h1).1, by rw [hb2 b i h1]; exact h2, h3, fun j v c a1 a2 => (h4 j v c a1 a2).mono hk⟩
  | farr ns => exact fun i => (hf2 i).trans (h i)
  | memo kag I =>
    obtain ⟨b, ents, clock, h1, h2, h3, h4, h5⟩ := h
    refine ⟨b, ents, clock, hk.obj _ _ hl h1, by rw [hb b h1]; exact h2, h3, h4, fun i e hi => ?_⟩
    obtain ⟨cs, v, g1, g2, g3⟩ := h5 i e hi
    exact ⟨cs, v, g1.keep fun _ _ h => h.mono hk.fr, g2.mono hk.fr, g3⟩
  | abs J => exact ⟨h.1, (hf2 0).trans h.2.1, h.1 _ _ _ _ _ _ (fun _ _ h => h.mono hk.fr) (fun b i => ⟨fun h => (hk.fob _ _ _ hl h).1, hb3 b i⟩) hb2 h.2.2⟩

/-- What an operation does: its value, objects set (new ones too), names used, whether it looked at objects. -/
structure Out where
  v : V
  ob : List (Nat × AObj) := []
  n : Nat := 0
  rd : Bool := false

def asets : List (Nat × AObj) → List (Nat × AObj) → List (Nat × AObj)
  | s, [] => s
  | s, (k, o) :: r => asets (aset s k o) r

def S.app (s : S) (o : Out) : S := { s with sto := asets s.sto o.ob }

def St.app (st : St) (d : Option Nat) (o : Out) : St :=
  { env := match d with | some d => aset st.env d o.v | none => st.env, s := st.s.app o }

/-- The general step of a frame. -/
theorem Rel.step {C : Ctx} {Λ Λ' : L} {st : St} {a : Act} (h : Rel C Λ st a) (hk : Kp Λ Λ') {d : Option Nat} (hd : ∀ x, d = some x → x < C.n) {v : Value} {o : Out} (hv : RelV Λ' v o.v) (hs : RelS Λ' (st.s.app o)) :
    Rel C Λ' (st.app d o) (a.put d v) := by
  refine ⟨h.kp.trans hk, by rw [put_size]; exact h.size, by cases d <;> exact h.defers, fun t => ?_, hs⟩
  cases d with
  | none => exact (h.env t).mono hk
  | some d =>
    simp only [St.app]
    rw [look_aset, getD_put _ _ _ _ (by rw [h.size]; exact hd d rfl)]
    by_cases e : d = t
    · simp only [e, if_true]; exact hv
    · simp only [e, if_false]; exact (h.env t).mono hk

/-- a name that nothing bears -/
structure Free (Λ : L) (k : Nat) : Prop where
  obj : ∀ b, Λ.lab b ≠ .obj k
  arr : ∀ b n, Λ.lab b ≠ .arr k n
  fro : Λ.fro k = 0
  fob : ∀ b i, Λ.lab b ≠ .fob k i
  far : ∀ b i n, Λ.lab b ≠ .far k i n
  frf : ∀ i, Λ.frf k i = 0

/-- more names -/
def L.up (Λ : L) (m : Nat) : L := { Λ with nxt := m }

theorem Kp.up (Λ : L) {m : Nat} (h : Λ.nxt ≤ m) : Kp Λ (Λ.up m) :=
  ⟨Fr.refl _ _, h, fun _ _ _ h => h, fun _ _ _ _ _ h _ => ⟨h, rfl⟩, fun _ _ => Nat.le_refl _, fun _ _ _ _ h => ⟨h, fun _ h => h⟩, fun _ _ _ _ _ _ h _ => ⟨h, rfl⟩, fun _ _ _ => Nat.le_refl _, fun _ _ _ _ _ _ h => h⟩

theorem RelS.up {Λ : L} {s : S} (h : RelS Λ s) {m : Nat} (hm : Λ.nxt ≤ m) : RelS (Λ.up m) s := by
  have hk := Kp.up Λ hm
  refine ⟨fun k o hk' => ?_, h.inj, h.new, fun b k hb => Nat.lt_of_lt_of_le (h.bnd b k hb) hm, fun k hk' => h.frz k (Nat.le_trans hm hk'), h.injF, fun b k hb => Nat.lt_of_lt_of_le (h.bndF b k hb) hm, fun k i hk' => h.frzF k i (Nat.le_trans hm hk')⟩
  obtain ⟨h1, h2⟩ := h.sto k o hk'
  exact ⟨Nat.lt_of_lt_of_le h1 hm, h2.mono hk h1 (fun _ _ => rfl) rfl (fun _ _ _ => rfl) (fun _ _ h => h) (fun _ => rfl)⟩

theorem RelS.free {Λ : L} {s : S} (h : RelS Λ s) {k : Nat} (hk : Λ.nxt ≤ k) : Free Λ k :=
  ⟨fun b hb => by have := h.bnd b k (.inl hb); omega, fun b n hb => by have := h.bnd b k (.inr ⟨n, hb⟩); omega, h.frz k hk, fun b i hb => by have := h.bndF b k (.inl ⟨i, hb⟩); omega, fun b i n hb => by have := h.bndF b k (.inr ⟨i, n, hb⟩); omega, fun i => h.frzF k i hk⟩

theorem Rel.up {C : Ctx} {Λ : L} {st : St} {a : Act} (h : Rel C Λ st a) {m : Nat} (hm : Λ.nxt ≤ m) : Rel C (Λ.up m) st a := by
  have hk := Kp.up Λ hm
  exact ⟨h.kp.trans hk, h.size, h.defers, fun t => (h.env t).mono hk, h.s.up hm⟩

mutual
/-- the names in a value are below a bound -/
def V.bd (m : Nat) : V → Bool
  | .t _ => true
  | .nils => true
  | .top => true
  | .own k _ _ => decide (k < m)
  | .slc k _ _ _ => decide (k < m)
  | .ptr k _ => decide (k < m)
  | .mp k => decide (k < m)
  | .fn _ cs => cs.all fun c => decide (c.1 < m)
  | .agg cs => V.bds m cs
  | .tup cs => V.bds m cs
  | .gd _ x => x.bd m
  | .ub _ _ => true
  | .ui _ => true
  | .fpt k _ _ => decide (k < m)
  | .gpt k _ _ => decide (k < m)
  | .gsl k _ _ _ _ => decide (k < m)
  | .fow k _ _ _ => decide (k < m)
def V.bds (m : Nat) : List V → Bool
  | [] => true
  | x :: r => x.bd m && V.bds m r
end

theorem V.bds_at {m : Nat} : ∀ {cs : List V}, V.bds m cs = true → ∀ (j : Nat) (c : V), cs[j]? = some c → c.bd m = true
  | [], _, j, c, h => by simp at h
  | x :: r, hb, 0, c, h => by simp at h; subst h; simp [V.bds] at hb; exact hb.1
  | x :: r, hb, j + 1, c, h => by simp [V.bds] at hb; exact V.bds_at hb.2 j c (by simpa using h)

/-- names from m on are forgotten -/
def L.cut (Λ : L) (m m' : Nat) : L where
  lab := fun b => match Λ.lab b with
    | .obj k => if k < m then .obj k else .fix none
    | .arr k fr => if k < m then .arr k fr else .fix none
    | .fob k i => if k < m then .fob k i else .fix none
    | .far k i fr => if k < m then .far k i fr else .fix none
    | x => x
  fro := fun k => if k < m then Λ.fro k else 0
  nxt := m'
  w := Λ.w
  frf := fun k i => if k < m then Λ.frf k i else 0

theorem cut_fix {Λ : L} {m m' b : Nat} {fr : Option Nat} (h : Λ.lab b = .fix fr) : (Λ.cut m m').lab b = .fix fr := by simp [L.cut, h]
theorem cut_obj {Λ : L} {m m' b k : Nat} (h : Λ.lab b = .obj k) (hk : k < m) : (Λ.cut m m').lab b = .obj k := by simp [L.cut, h, hk]
theorem cut_arr {Λ : L} {m m' b k n : Nat} (h : Λ.lab b = .arr k n) (hk : k < m) : (Λ.cut m m').lab b = .arr k n := by simp [L.cut, h, hk]
theorem cut_fob {Λ : L} {m m' b k i : Nat} (h : Λ.lab b = .fob k i) (hk : k < m) : (Λ.cut m m').lab b = .fob k i := by simp [L.cut, h, hk]
theorem cut_far {Λ : L} {m m' b k i n : Nat} (h : Λ.lab b = .far k i n) (hk : k < m) : (Λ.cut m m').lab b = .far k i n := by simp [L.cut, h, hk]
theorem cut_fob_inv {Λ : L} {m m' b k i : Nat} (h : (Λ.cut m m').lab b = .fob k i) : Λ.lab b = .fob k i ∧ k < m := by
  simp only [L.cut] at h
  cases hl : Λ.lab b with
  | fix fr => simp [hl] at h
  | obj j => simp only [hl] at h; split at h <;> simp_all
  | arr j n => simp only [hl] at h; split at h <;> simp_all
  | fob j n => simp only [hl] at h; split at h <;> simp_all
  | far j n q => simp only [hl] at h; split at h <;> simp_all
theorem cut_far_inv {Λ : L} {m m' b k i n : Nat} (h : (Λ.cut m m').lab b = .far k i n) : Λ.lab b = .far k i n ∧ k < m := by
  simp only [L.cut] at h
  cases hl : Λ.lab b with
  | fix fr => simp [hl] at h
  | obj j => simp only [hl] at h; split at h <;> simp_all
  | arr j n => simp only [hl] at h; split at h <;> simp_all
  | fob j n => simp only [hl] at h; split at h <;> simp_all
  | far j n q => simp only [hl] at h; split at h <;> simp_all
theorem cut_obj_inv {Λ : L} {m m' b k : Nat} (h : (Λ.cut m m').lab b = .obj k) : Λ.lab b = .obj k ∧ k < m := by
  simp only [L.cut] at h
  cases hl : Λ.lab b with
  | fix fr => simp [hl] at h
  | obj j => simp only [hl] at h; split at h <;> simp_all
  | arr j n => simp only [hl] at h; split at h <;> simp_all
  | fob j n => simp only [hl] at h; split at h <;> simp_all
  | far j n q => simp only [hl] at h; split at h <;> simp_all
theorem cut_arr_inv {Λ : L} {m m' b k n : Nat} (h : (Λ.cut m m').lab b = .arr k n) : Λ.lab b = .arr k n ∧ k < m := by
  simp only [L.cut] at h
  cases hl : Λ.lab b with
  | fix fr => simp [hl] at h
  | obj j => simp only [hl] at h; split at h <;> simp_all
  | arr j n => simp only [hl] at h; split at h <;> simp_all
  | fob j n => simp only [hl] at h; split at h <;> simp_all
  | far j n q => simp only [hl] at h; split at h <;> simp_all
theorem cut_rd {Λ : L} {m m' b o : Nat} (h : Rd Λ.lab b o) : Rd (Λ.cut m m').lab b o := by
  unfold Rd at *
  cases hl : Λ.lab b with
  | fix fr => rw [cut_fix hl]; rw [hl] at h; exact h
  | obj j => simp [hl] at h
  | arr j n =>
    simp only [hl] at h
    simp only [L.cut, hl]
    by_cases hj : j < m <;> simp [hj, h]
  | fob j i => simp [hl] at h
  | far j i n =>
    simp only [hl] at h
    simp only [L.cut, hl]
    by_cases hj : j < m <;> simp [hj, h]

theorem RepT.cut {Λ : L} {m m' : Nat} {v : Value} {x : T} (h : RepT Λ.lab Λ.w v x) : RepT (Λ.cut m m').lab (Λ.cut m m').w v x :=
  h.keep fun _ _ _ _ hr => ⟨cut_rd hr, rfl⟩

theorem RelV.cut {Λ : L} {m m' : Nat} (hm : m ≤ m') {v : Value} {x : V} (h : RelV Λ v x) (hb : x.bd m = true) : RelV (Λ.cut m m') v x := by
  induction h with
  | t h => exact .t h.cut
  | nils => exact .nils
  | @own v k sz xs h hsz hl hn ho =>
    have hk : k < m := by simpa [V.bd] using hb
    have hf : (Λ.cut m m').fro k = Λ.fro k := by simp [L.cut, hk]
    refine .own h.cut hsz (Nat.lt_of_lt_of_le hk hm) (by rw [hf]; exact hn) fun he => ?_
    rcases ho (by rw [← hf]; exact he) with ho | ⟨b, cap, arr, e, hv, hb', hh, hc, hn'⟩
    · exact .inl ho
    · exact .inr ⟨b, cap, arr, e, hv, cut_arr hb' hk, hh, hc, hn'⟩
  | @slc b k off len cap sz hl hc h => have hk : k < m := by simpa [V.bd] using hb
                                       exact .slc (Nat.lt_of_lt_of_le hk hm) hc (cut_obj h hk)
  | agg hs _ ih => exact .agg hs fun j v c h1 h2 => ih j v c h1 h2 (V.bds_at (by simpa [V.bd] using hb) j c h2)
  | tup hs _ ih => exact .tup hs fun j v c h1 h2 => ih j v c h1 h2 (V.bds_at (by simpa [V.bd] using hb) j c h2)
  | @ptr b k off hl h => have hk : k < m := by simpa [V.bd] using hb
                         exact .ptr (Nat.lt_of_lt_of_le hk hm) (cut_obj h hk)
  | @mp b k hl h => have hk : k < m := by simpa [V.bd] using hb
                    exact .mp (Nat.lt_of_lt_of_le hk hm) (cut_obj h hk)
  | fn hs h =>
    refine .fn hs fun j v c h1 h2 => ?_
    obtain ⟨b, e1, e2, e3⟩ := h j v c h1 h2
    have hk : c.1 < m := by
      simp only [V.bd, List.all_eq_true, decide_eq_true_eq] at hb
      exact hb c (List.mem_of_getElem? h2)
    exact ⟨b, e1, cut_obj e2 hk, Nat.lt_of_lt_of_le hk hm⟩
  | gd _ h' ih => exact .gd (fun hc => ih hc (by simpa [V.bd] using hb)) h'
  | top => exact .top
  | ub h h' => exact .ub h h'
  | ui => exact .ui
  | @fpt b k i off hl h => have hk : k < m := by simpa [V.bd] using hb
                           exact .fpt (Nat.lt_of_lt_of_le hk hm) (cut_fob h hk)
  | @gpt v k ver off hv hl hn h =>
    have hk : k < m := by simpa [V.bd] using hb
    have hf : (Λ.cut m m').frf k 0 = Λ.frf k 0 := by simp [L.cut, hk]
    refine .gpt hv (Nat.lt_of_lt_of_le hk hm) (by rw [hf]; exact hn) fun he => ?_
    obtain ⟨b, e1, i, e2, e3⟩ := h (by rw [← hf]; exact he)
    exact ⟨b, e1, i, cut_fob e2 hk, fun b' i' h' => e3 b' i' (cut_fob_inv h').1⟩
  | @gsl v k ver off len sz hv hl hn h =>
    have hk : k < m := by simpa [V.bd] using hb
    have hf : (Λ.cut m m').frf k 0 = Λ.frf k 0 := by simp [L.cut, hk]
    refine .gsl hv (Nat.lt_of_lt_of_le hk hm) (by rw [hf]; exact hn) fun he => ?_
    rcases h (by rw [← hf]; exact he) with h | ⟨b, cap, N, hv, hc, ⟨i, e2, e3⟩, hN, he'⟩
    · exact .inl h
    · exact .inr ⟨b, cap, N, hv, hc, ⟨i, cut_fob e2 hk, fun b' i' h' => e3 b' i' (cut_fob_inv h').1⟩, hN, he'⟩
  | @fow v k i sz xs h hsz hl hn ho =>
    have hk : k < m := by simpa [V.bd] using hb
    have hf : (Λ.cut m m').frf k i = Λ.frf k i := by simp [L.cut, hk]
    refine .fow h.cut hsz (Nat.lt_of_lt_of_le hk hm) (by rw [hf]; exact hn) fun he => ?_
    rcases ho (by rw [← hf]; exact he) with ho | ⟨b, cap, arr, e, hv, hb', hh, hc, hn'⟩
    · exact .inl ho
    · exact .inr ⟨b, cap, arr, e, hv, cut_far hb' hk, hh, hc, hn'⟩

theorem Kp.cut {A Λ : L} {m m' : Nat} (h : Kp A Λ) (hm : A.nxt ≤ m) (hm' : m ≤ m') : Kp A (Λ.cut m m') := by
  refine ⟨⟨h.fr.os, h.fr.tape, h.fr.output, h.fr.size, fun b hb fr hl => ?_, fun b hb k fr hl o ho => ?_, fun b hb k i fr hl o ho => ?_⟩, Nat.le_trans hm hm', fun b k hk hl => ?_, fun b k n hk hb hl hf => ?_, fun k hk => ?_, fun b k i hk hl => ?_, fun b k i n hk hb hl hf => ?_, fun k i hk => ?_, fun b k i hk hp hf hl => ?_⟩
  · obtain ⟨h1, h2⟩ := h.fr.fix b hb fr hl; exact ⟨cut_fix h1, h2⟩
  · obtain ⟨h1, h2⟩ := h.fr.arr b hb k fr hl o ho; exact ⟨cut_rd h1, h2⟩
  · obtain ⟨h1, h2⟩ := h.fr.far b hb k i fr hl o ho; exact ⟨cut_rd h1, h2⟩
  · exact cut_obj (h.obj b k hk hl) (Nat.lt_of_lt_of_le hk hm)
  · have e : (Λ.cut m m').fro k = Λ.fro k := by simp [L.cut, Nat.lt_of_lt_of_le hk hm]
    obtain ⟨h1, h2⟩ := h.own b k n hk hb hl (by rw [← e]; exact hf)
    exact ⟨cut_arr h1 (Nat.lt_of_lt_of_le hk hm), h2⟩
  · have e : (Λ.cut m m').fro k = Λ.fro k := by simp [L.cut, Nat.lt_of_lt_of_le hk hm]
    rw [e]; exact h.fro k hk
  · obtain ⟨h1, h2⟩ := h.fob b k i hk hl
    exact ⟨cut_fob h1 (Nat.lt_of_lt_of_le hk hm), h2⟩
  · have e : (Λ.cut m m').frf k i = Λ.frf k i := by simp [L.cut, Nat.lt_of_lt_of_le hk hm]
    obtain ⟨h1, h2⟩ := h.far b k i n hk hb hl (by rw [← e]; exact hf)
    exact ⟨cut_far h1 (Nat.lt_of_lt_of_le hk hm), h2⟩
  · have e : (Λ.cut m m').frf k i = Λ.frf k i := by simp [L.cut, Nat.lt_of_lt_of_le hk hm]
    rw [e]; exact h.frf k i hk
  · have e : (Λ.cut m m').frf k 0 = Λ.frf k 0 := by simp [L.cut, Nat.lt_of_lt_of_le hk hm]
    exact h.fobN b k i hk hp (by rw [← e]; exact hf) (cut_fob_inv hl).1

/-- Knowing less of a value: names from m up to m' are new and may be given to nil slices. -/
def LeV (m m' : Nat) (x x' : V) : Prop :=
  ∀ (Λ : L) (v : Value), (∀ k, m ≤ k → k < m' → Λ.fro k = 0 ∧ ∀ i, Λ.frf k i = 0) → m' ≤ Λ.nxt → RelV Λ v x → RelV Λ v x'

theorem LeV.rfl {m m' : Nat} {x : V} : LeV m m' x x := fun _ _ _ _ h => h
theorem LeV.eq {m m' : Nat} {x y : V} (e : x = y) : LeV m m' x y := fun _ _ _ _ h => e ▸ h
theorem LeV.top {m m' : Nat} {x : V} : LeV m m' x .top := fun _ _ _ _ _ => .top
theorem LeV.ownT {m m' k sz : Nat} {xs : List (List T)} : LeV m m' (.own k sz xs) (.t (.lst xs)) := fun _ _ _ _ h => by cases h; exact .t ‹_›
theorem RepT.nil {l : Nat → Lab} {w : World} {a : Option Addr} : RepT l w (.slice a 0 0) (.lst []) :=
  .lst a 0 0 [] 0 0 (fun _ _ => undef) (by simp) (by simp) (by simp) (by simp) (by simp) (by simp)
theorem LeV.nilT {m m' : Nat} : LeV m m' .nils (.t (.lst [])) := fun _ _ _ _ h => by cases h; exact .t .nil
theorem LeV.nilOwn {m m' k sz : Nat} (_ : m ≤ k) (h2 : k < m') : LeV m m' .nils (.own k sz []) := fun _ _ hf hn h => by
  cases h; exact .own .nil (by simp) (by omega) (by simp) (fun _ => .inl ⟨⟨_, Eq.refl _⟩, Eq.refl _⟩)
theorem LeV.nilGsl {m m' k off sz : Nat} (h2 : k < m') : LeV m m' .nils (.gsl k 0 off 0 sz) := fun _ _ hf hn h => by
  cases h; exact .gsl ⟨_, _, _, Eq.refl _⟩ (by omega) ⟨fun _ => ⟨⟨_, Eq.refl _⟩, Eq.refl _⟩, Nat.zero_le _⟩ (fun _ => .inl ⟨⟨_, Eq.refl _⟩, Eq.refl _⟩)
theorem LeV.fowT {m m' k i sz : Nat} {xs : List (List T)} : LeV m m' (.fow k i sz xs) (.t (.lst xs)) := fun _ _ _ _ h => by cases h; exact .t ‹_›
theorem LeV.agg {m m' : Nat} {cs ds : List V} (hl : cs.length = ds.length) (h : ∀ (j : Nat) (c d : V), cs[j]? = some c → ds[j]? = some d → LeV m m' c d) : LeV m m' (.agg cs) (.agg ds) :=
  fun Λ v hf hn hr => by
    cases hr with
    | agg hs hv =>
      refine .agg (hs.trans hl) fun j u d h1 h2 => ?_
      have hlt : j < cs.length := by rw [hl]; exact (List.getElem?_eq_some_iff.1 h2).1
      exact h j cs[j] d (by simp [hlt]) h2 Λ u hf hn (hv j u _ h1 (by simp [hlt]))

/-- Knowing less, where the names from m on are forgotten and those up to m' are new. -/
def LeX (m m' : Nat) (x x' : V) : Prop := ∃ y, LeV m m x y ∧ y.bd m = true ∧ LeV m m' y x'

theorem LeX.same {m m' : Nat} {x : V} (h : x.bd m = true) : LeX m m' x x := ⟨x, .rfl, h, .rfl⟩
theorem LeX.eq {m m' : Nat} {x y : V} (e : x = y) (h : y.bd m = true) : LeX m m' x y := e ▸ ⟨x, .rfl, e ▸ h, .rfl⟩
theorem LeX.top {m m' : Nat} {x : V} : LeX m m' x .top := ⟨.top, .top, by simp [V.bd], .rfl⟩
theorem LeX.t {m m' : Nat} {x : T} : LeX m m' (.t x) (.t x) := .same (by simp [V.bd])
theorem LeX.tEq {m m' : Nat} {x y : T} (e : x = y) : LeX m m' (.t x) (.t y) := e ▸ .t
theorem LeX.ownT {m m' k sz : Nat} {xs : List (List T)} : LeX m m' (.own k sz xs) (.t (.lst xs)) := ⟨.t (.lst xs), .ownT, by simp [V.bd], .rfl⟩
theorem LeX.ownEq {m m' k sz : Nat} {xs ys : List (List T)} (e : xs = ys) (h : k < m) : LeX m m' (.own k sz xs) (.own k sz ys) := .eq (by rw [e]) (by simpa [V.bd] using h)
theorem LeX.ui {m m' : Nat} {k : IntKind} : LeX m m' (.ui k) (.ui k) := .same (by simp [V.bd])
theorem LeX.nilT {m m' : Nat} : LeX m m' .nils (.t (.lst [])) := ⟨.nils, .rfl, by simp [V.bd], .nilT⟩
theorem LeX.nilOwn {m m' k sz : Nat} (h1 : m ≤ k) (h2 : k < m') : LeX m m' .nils (.own k sz []) := ⟨.nils, .rfl, by simp [V.bd], .nilOwn h1 h2⟩

theorem LeX.nilGsl {m m' k off sz : Nat} (h2 : k < m') : LeX m m' .nils (.gsl k 0 off 0 sz) := ⟨.nils, .rfl, by simp [V.bd], .nilGsl h2⟩
theorem LeX.fowT {m m' k i sz : Nat} {xs : List (List T)} : LeX m m' (.fow k i sz xs) (.t (.lst xs)) := ⟨.t (.lst xs), .fowT, by simp [V.bd], .rfl⟩

theorem LeX.cut {m m' : Nat} (hm : m ≤ m') {x x' : V} (h : LeX m m' x x') {Λ : L} {v : Value} (hx : m ≤ Λ.nxt) (hr : RelV Λ v x) : RelV (Λ.cut m m') v x' := by
  obtain ⟨y, h1, h2, h3⟩ := h
  exact h3 _ _ (fun k hk _ => ⟨by simp [L.cut]; omega, fun i => by simp [L.cut]; omega⟩) (Nat.le_refl _) ((h1 Λ v (fun k h1 h2 => by omega) hx hr).cut hm h2)
/-- an object that is new: nothing in it -/
def AObj.fresh : AObj → Bool
  | .arr n => Nat.beq n 0
  | .gro ver cs => (ver == 0) && cs.isEmpty
  | .fobs os => os.isEmpty
  | .farr ns => ns.isEmpty
  | _ => false

inductive LeXs (m m' : Nat) : List V → List V → Prop
  | nil : LeXs m m' [] []
  | cons {x y : V} {xs ys : List V} (h : LeX m m' x y) (t : LeXs m m' xs ys) : LeXs m m' (x :: xs) (y :: ys)
theorem LeXs.length {m m' : Nat} {xs ys : List V} (h : LeXs m m' xs ys) : xs.length = ys.length := by
  induction h with
  | nil => rfl
  | cons _ _ ih => simp [ih]
theorem LeXs.at {m m' : Nat} {xs ys : List V} (h : LeXs m m' xs ys) : ∀ (j : Nat) (c d : V), xs[j]? = some c → ys[j]? = some d → LeX m m' c d := by
  induction h with
  | nil => intro j c d h; simp at h
  | cons h _ ih =>
    intro j c d h1 h2
    cases j with
    | zero => simp at h1 h2; subst h1; subst h2; exact h
    | succ j => exact ih j c d (by simpa using h1) (by simpa using h2)
theorem LeXs.same {m m' : Nat} : ∀ {xs : List V}, V.bds m xs = true → LeXs m m' xs xs
  | [], _ => .nil
  | x :: r, h => by simp [V.bds] at h; exact .cons (.same h.1) (.same h.2)

/-- Knowing less of an object. -/
inductive LeO (m m' : Nat) : AObj → AObj → Prop
  | cells {cs ds : List V} (h : LeXs m m' cs ds) : LeO m m' (.cells cs) (.cells ds)
  | map {a : Bool} {es fs : List (List T × V)} {st st' : Option (Nat × List Nat)} (hk : es.map (·.1) = fs.map (·.1)) (hv : LeXs m m' (es.map (·.2)) (fs.map (·.2))) (hs : st' = none ∨ st' = st) : LeO m m' (.map a es st) (.map a fs st')
  | arr {n n' : Nat} (h : n = n') : LeO m m' (.arr n) (.arr n')
  | iter {q s c : Nat} {u v : List Nat} (h : u = v) (hq : q < m) : LeO m m' (.iter q s u c) (.iter q s v c)
  | gro {r : Nat} {cs ds : List V} (h : LeXs m m' cs ds) : LeO m m' (.gro r cs) (.gro r ds)
  | fobs {os ps : List (List V)} (hl : os.length = ps.length) (h : ∀ (i : Nat) (cs ds : List V), os[i]? = some cs → ps[i]? = some ds → LeXs m m' cs ds) : LeO m m' (.fobs os) (.fobs ps)
  | farr {ns ms : List Nat} (h : ns = ms) : LeO m m' (.farr ns) (.farr ms)
  | memo {a : Bool} {I J : List T → T → Prop} (h : ∀ cs v, I cs v → J cs v) : LeO m m' (.memo a I) (.memo a J)
  | abs {J J' : (Value → T → Prop) → (Nat → Option Obj) → (Nat → Nat → Prop) → Prop} (e : J = J') : LeO m m' (.abs J) (.abs J')
  | toMemo {a : Bool} {es : List (List T × V)} {st : Option (Nat × List Nat)} {I : List T → T → Prop} (h : ∀ e, e ∈ es → ∃ x, e.2 = .t x ∧ I e.1 x) : LeO m m' (.map a es st) (.memo a I)

/-- slots that are known afterwards -/
def LeE (m m' : Nat) (e : List (Nat × V)) : List (Nat × V) → Prop
  | [] => True
  | (t, x) :: r => LeX m m' (look e t) x ∧ LeE m m' e r

def LeS (m m' : Nat) (s : List (Nat × AObj)) : List (Nat × AObj) → Prop
  | [] => True
  | (k, o) :: r => ((k < m ∧ ∃ o', aget s k = some o' ∧ LeO m m' o' o) ∨ (m ≤ k ∧ k < m' ∧ o.fresh = true)) ∧ LeS m m' s r

theorem LeE.at {m m' : Nat} {e : List (Nat × V)} : ∀ {e' : List (Nat × V)}, LeE m m' e e' → ∀ t, LeX m m' (look e t) (look e' t)
  | [], _, t => .top
  | (k, x) :: r, h, t => by
    obtain ⟨h1, h2⟩ := h
    by_cases e' : k = t
    · subst e'; simpa [look, aget] using h1
    · have := LeE.at h2 t; simpa [look, aget, e'] using this

theorem LeS.at {m m' : Nat} {s : List (Nat × AObj)} : ∀ {s' : List (Nat × AObj)}, LeS m m' s s' → ∀ k o, aget s' k = some o →
    (k < m ∧ ∃ o', aget s k = some o' ∧ LeO m m' o' o) ∨ (m ≤ k ∧ k < m' ∧ o.fresh = true)
  | [], _, k, o, h => by simp [aget] at h
  | (j, x) :: r, h, k, o, hk => by
    obtain ⟨h1, h2⟩ := h
    by_cases e' : j = k
    · subst e'; simp [aget] at hk; subst hk; exact h1
    · simp only [aget, e', if_false] at hk; exact LeS.at h2 k o hk

theorem RelS.weak {Λ : L} {s : S} (h : RelS Λ s) {s' : S} {m m' : Nat} (hm0 : m ≤ Λ.nxt) (hm' : m ≤ m') (hs : LeS m m' s.sto s'.sto) : RelS (Λ.cut m m') s' := by
  have hnew : ∀ k, m ≤ k → k < m' → (Λ.cut m m').fro k = 0 := fun k hk _ => by simp [L.cut]; omega
  refine ⟨fun k o hk => ?_, fun b b' k h1 h2 => h.inj b b' k (cut_obj_inv h1).1 (cut_obj_inv h2).1, fun b hb => cut_fix (h.new b hb), ?_, fun k hk => by have hk' : m' ≤ k := hk; simp [L.cut]; omega, fun b b' k i h1 h2 => h.injF b b' k i (cut_fob_inv h1).1 (cut_fob_inv h2).1, ?_, fun k i hk => by have hk' : m' ≤ k := hk; simp [L.cut]; omega⟩
  · rcases hs.at k o hk with ⟨hkm, o', ho', hle⟩ | ⟨h1, h2, hfr⟩
    · refine ⟨Nat.lt_of_lt_of_le hkm hm', ?_⟩
      have hr := (h.sto k o' ho').2
      cases hle with
      | cells hle =>
        obtain ⟨b, arr, e, e1, e2, e3, e4⟩ := hr
        refine ⟨b, arr, e, cut_obj e1 hkm, e2, by rw [e3]; exact hle.length, fun j v d a1 a2 => ?_⟩
        have hlt : j < _ := (List.getElem?_eq_some_iff.1 a2).1
        rw [← hle.length] at hlt
        have hc := List.getElem?_eq_getElem hlt
        exact (hle.at j _ d hc a2).cut hm' hm0 (e4 j v _ a1 hc)
      | @map a es fs sx sy hke hve hse =>
        obtain ⟨b, ents, clock, e1, e2, e3⟩ := hr
        have hlen : es.length = fs.length := by have := congrArg List.length hke; simpa using this
        refine ⟨b, ents, clock, cut_obj e1 hkm, e2, ⟨e3.size.trans hlen, fun i e kv a1 a2 => ?_, e3.born, e3.apart, fun c bs h => ?_⟩⟩
        · have hlt : i < es.length := by rw [hlen]; exact (List.getElem?_eq_some_iff.1 a2).1
          have hes := List.getElem?_eq_getElem hlt
          obtain ⟨g1, g2⟩ := e3.at_ i e _ a1 hes
          have hk1 : (es[i]).1 = kv.1 := by
            have := congrArg (fun l => l[i]?) hke
            simp only [List.getElem?_map, hes, a2, Option.map] at this
            exact Option.some.inj this
          refine ⟨by rw [← hk1]; exact g1.keep fun _ _ h => h.cut, ?_⟩
          exact (hve.at i (es[i]).2 kv.2 (by simp [List.getElem?_map, hes]) (by simp [List.getElem?_map, a2])).cut hm' hm0 g2
        · rcases hse with e | e
          · rw [e] at h; cases h
          · rw [e] at h; exact e3.known c bs h
      | arr e => subst e; unfold RelO at *; simp [L.cut, hkm, hr]
      | iter e hq =>
        subst e
        obtain ⟨b, bm, e1, e2, e3, e4⟩ := hr
        exact ⟨b, bm, cut_obj e1 hkm, e2, cut_obj e3 hq, Nat.lt_of_lt_of_le hq hm'⟩
      | @gro r cs ds hle =>
        obtain ⟨h0, hr⟩ := hr
        refine ⟨by simp [L.cut, hkm, h0], ?_⟩
        rcases hr with ⟨e1, e2⟩ | ⟨b, arr, e, ⟨i, e1, e1'⟩, e2, e3, e4⟩
        · subst e1
          have : ds = [] := List.length_eq_zero_iff.1 (by rw [← hle.length]; rfl)
          exact .inl ⟨this, fun b i hb => e2 b i (cut_fob_inv hb).1⟩
        · refine .inr ⟨b, arr, e, ⟨i, cut_fob e1 hkm, fun b' i' h' => e1' b' i' (cut_fob_inv h').1⟩, e2, by rw [← hle.length]; exact e3, fun j v d a1 a2 => ?_⟩
          have hlt : j < _ := (List.getElem?_eq_some_iff.1 a2).1
          rw [← hle.length] at hlt
          have hc := List.getElem?_eq_getElem hlt
          exact (hle.at j _ d hc a2).cut hm' hm0 (e4 j v _ a1 hc)
      | @fobs os ps hl hle =>
        obtain ⟨h0, hr⟩ := hr
        refine ⟨fun b i hbi => by rw [← hl]; exact h0 b i (cut_fob_inv hbi).1, fun i ds hi => ?_⟩
        have hlt : i < os.length := by rw [hl]; exact (List.getElem?_eq_some_iff.1 hi).1
        have hos := List.getElem?_eq_getElem hlt
        have hle := hle i _ ds hos hi
        obtain ⟨b, arr, e, e1, e2, e3, e4⟩ := hr i _ hos
        refine ⟨b, arr, e, cut_fob e1 hkm, e2, by rw [e3]; exact hle.length, fun j v d a1 a2 => ?_⟩
        have hlt : j < _ := (List.getElem?_eq_some_iff.1 a2).1
        rw [← hle.length] at hlt
        have hc := List.getElem?_eq_getElem hlt
        exact (hle.at j _ d hc a2).cut hm' hm0 (e4 j v _ a1 hc)
      | farr e => subst e; intro i; have := hr i; simpa [L.cut, hkm] using this
      | memo hI =>
        obtain ⟨b, ents, clock, e1, e2, e3, e4, e5⟩ := hr
        refine ⟨b, ents, clock, cut_obj e1 hkm, e2, e3, e4, fun i e hi => ?_⟩
        obtain ⟨cs, v, g1, g2, g3⟩ := e5 i e hi
        exact ⟨cs, v, g1.keep fun _ _ h => h.cut, g2.cut, hI cs v g3⟩
      | toMemo hI =>
        obtain ⟨b, ents, clock, e1, e2, e3⟩ := hr
        refine ⟨b, ents, clock, cut_obj e1 hkm, e2, e3.born, e3.apart, fun i e hi => ?_⟩
        have hlt : i < _ := e3.size ▸ (Array.getElem?_eq_some_iff.1 hi).1
        have hes := List.getElem?_eq_getElem hlt
        obtain ⟨g1, g2⟩ := e3.at_ i e _ hi hes
        obtain ⟨x, hx, hJ⟩ := hI _ (List.mem_of_getElem? hes)
        have g3 : RelV Λ e.val (.t x) := hx ▸ g2
        exact ⟨_, x, g1.keep fun _ _ h => h.cut, RepT.cut (by generalize e.val = ev at g3; cases g3 with | t g => exact g), hJ⟩
      | abs e =>
        subst e
        exact ⟨hr.1, by simp [L.cut, hkm, hr.2.1], hr.1 _ _ _ _ _ _ (fun _ _ h => h.cut) (fun b i => ⟨fun h => cut_fob h hkm, fun h => (cut_fob_inv h).1⟩) (fun _ _ _ => rfl) hr.2.2⟩
    · have hnf : ∀ b i, (Λ.cut m m').lab b ≠ .fob k i := fun b i hb => by have := (cut_fob_inv hb).2; omega
      refine ⟨h2, ?_⟩
      cases o with
      | arr n => have : n = 0 := by simpa [AObj.fresh] using hfr
                 subst this; exact hnew k h1 h2
      | gro r cs => have : r = 0 ∧ cs = [] := by simpa [AObj.fresh] using hfr
                    exact ⟨by rw [this.1]; simp [L.cut]; omega, .inl ⟨this.2, hnf⟩⟩
      | fobs os => have : os = [] := by simpa [AObj.fresh] using hfr
                   subst this
                   exact ⟨fun b i hb => absurd hb (hnf b i), fun i cs hi => by simp at hi⟩
      | farr ns => have : ns = [] := by simpa [AObj.fresh] using hfr
                   subst this
                   intro i; simp [L.cut]; omega
      | cells _ => simp [AObj.fresh] at hfr
      | map _ _ _ => simp [AObj.fresh] at hfr
      | iter _ _ _ _ => simp [AObj.fresh] at hfr
      | memo _ _ => simp [AObj.fresh] at hfr
      | abs _ => simp [AObj.fresh] at hfr
  · intro b k hb
    rcases hb with hb | ⟨n, hb⟩
    · exact Nat.lt_of_lt_of_le (cut_obj_inv hb).2 hm'
    · exact Nat.lt_of_lt_of_le (cut_arr_inv hb).2 hm'
  · intro b k hb
    rcases hb with ⟨i, hb⟩ | ⟨i, n, hb⟩
    · exact Nat.lt_of_lt_of_le (cut_fob_inv hb).2 hm'
    · exact Nat.lt_of_lt_of_le (cut_far_inv hb).2 hm'

/-- Knowing less. -/
theorem Rel.weak {C : Ctx} {Λ : L} {st : St} {a : Act} (h : Rel C Λ st a) {st' : St} {m : Nat} (hm : C.Λ.nxt ≤ m) (hm0 : m ≤ Λ.nxt) (hm' : m ≤ st'.s.nxt)
    (he : LeE m st'.s.nxt st.env st'.env) (hs : LeS m st'.s.nxt st.s.sto st'.s.sto) : Rel C (Λ.cut m st'.s.nxt) st' a :=
  ⟨h.kp.cut hm hm', h.size, h.defers, fun t => (he.at t).cut hm' hm0 (h.env t), h.s.weak hm0 hm' hs⟩

end Go.GB


/-
  GbC: abstract operations and their evaluation on abstract states.
-/
namespace Go.GB

inductive Ar where
  | s (t : Nat)
  | c (v : V)

/-- the shape of a cell of a key -/
inductive KSh where
  | bool
  | int (k : IntKind)
  | str
  | ptr

/-- operations on maps; comparisons of structs and with nil -/
inductive NOp where
  | lookup (ks : List KSh) (kag : Bool) (zv : V) (ok : Bool) (x k : Ar)
  | mupd (ks : List KSh) (kag : Bool) (x k v : Ar)
  | mdel (ks : List KSh) (kag : Bool) (x k : Ar)
  | ment (ks : List KSh) (kag : Bool) (zv : V) (x k : Ar)
  | ests (x s v : Ar)
  | sclr (sz : Nat) (z : List V) (x : Ar)
  | mclr (x : Ar)
  | nxt (x : Ar)
  | ient (x : Ar)
  | xtr (cnt : Bool) (x y : Ar)
  | xcm (x y : Ar)
  | bad
  | eqn (neg : Bool) (x : Ar)
  | eqst (neg : Bool) (ks : List KSh) (x y : Ar)
  | bstr (x : Ar)
  | plook (ks : List KSh) (zv : V) (x k : Ar)
  | pupd (ks : List KSh) (x k v : Ar)

inductive AOp where
  | nw (op : NOp)
  | cst (v : V)
  | mv (x : Ar)
  | pick (c a b : Ar)
  | un (op : UnOp) (x : Ar)
  | bin (op : BinOp) (x y : Ar)
  | eqb (neg : Bool) (x y : Ar)
  | eqp (neg : Bool) (x : Ar)
  | eqm (neg : Bool) (x : Ar)
  | conv (k : IntKind) (x : Ar)
  | convs (x : Ar)
  | nilck (x : Ar)
  | fa (off : Nat) (x : Ar)
  | ld (ag : Bool) (n : Nat) (x : Ar)
  | ia (sz : Nat) (x i : Ar)
  | iarr (len sz : Nat) (x i : Ar)
  | ixs (x i : Ar)
  | ixa (ag : Bool) (len sz : Nat) (x i : Ar)
  | len (x : Ar)
  | lens (x : Ar)
  | sls (x : Ar) (lo hi : Option Ar)
  | sll (sz : Nat) (x : Ar) (lo hi : Option Ar)
  | fld (ag : Bool) (off n : Nat) (x : Ar)
  | maxi (x y : Ar)
  | mini (x y : Ar)
  | build (zs : List V) (ps : List (Nat × Nat × Ar))
  | mkfn (f : FuncId) (caps : List Ar)
  | lenm (x : Ar)
  | st (n : Nat) (x v : Ar)
  | box (n : Nat) (x : Ar)
  | alloc (zs : List V)
  | bsl (ow : Bool) (sz : Nat) (zs : List (List T)) (ps : List (Nat × Ar))
  | app (sz bytes : Nat) (x y : Ar)
  | ext (x : Ar) (i : Nat)
  | mkmap (kag vag : Bool)
  | mrange (x : Ar)
  | mksl (sz bytes : Nat) (z : List V) (n : Ar)
  | call (f : FuncId) (args : List Ar)
  | callv (x : Ar) (args : List Ar)

structure AO where
  dst : Option Nat
  g : Option (Nat × Bool)
  op : AOp

def Ar.v (st : St) : Ar → V
  | .s t => look st.env t
  | .c v => v

/-- A guarded value, where its guard holds. -/
def V.ug : V → V
  | .gd c v => if c then v else .top
  | v => v
def Ar.u (st : St) (x : Ar) : V := (x.v st).ug

/-- An operand under a guard. -/
def V.un (gc : Bool) : V → V × List Bool
  | .gd c v => (v, [!gc || c])
  | v => (v, [])

def rd (gc : Bool) (st : St) (x : Ar) : V × List Bool := (x.v st).un gc

/-- the tree of a value, where it is pure -/
def V.cell1 : V → Option T
  | .t x => some x
  | .own _ _ xs => some (.lst xs)
  | .nils => some (.lst [])
  | .fow _ _ _ xs => some (.lst xs)
  | _ => none
def V.cellsT : V → Option (List T)
  | .agg cs => cs.mapM V.cell1
  | v => (v.cell1).map fun x => [x]

/-- bits of whole numbers -/
def andI (k : IntKind) (a b : Int) : Int := k.wrap ((BitVec.ofInt k.bits a &&& BitVec.ofInt k.bits b).toNat : Int)
def orI (k : IntKind) (a b : Int) : Int := k.wrap ((BitVec.ofInt k.bits a ||| BitVec.ofInt k.bits b).toNat : Int)
def binT (op : BinOp) : T → T → Option (T × List Bool)
  | .int k a, .int k' b =>
    if k = k' then
      match op with
      | .add => some (.int k (k.wrap (a + b)), [])
      | .sub => some (.int k (k.wrap (a - b)), [])
      | .mul => some (.int k (k.wrap (a * b)), [])
      | .quo => some (.int k (k.wrap (a.tdiv b)), [decide (b ≠ 0)])
      | .rem => some (.int k (a.tmod b), [decide (b ≠ 0)])
      | .and => some (.int k (andI k a b), [])
      | .or => some (.int k (orI k a b), [])
      | .eql => some (.bool (a == b), [])
      | .neq => some (.bool (a != b), [])
      | .lss => some (.bool (decide (a < b)), [])
      | .leq => some (.bool (decide (a ≤ b)), [])
      | .gtr => some (.bool (decide (a > b)), [])
      | .geq => some (.bool (decide (a ≥ b)), [])
      | _ => none
    else none
  | .str a, .str b =>
    match op with
    | .add => some (.str (a ++ b), [decide (a.length + b.length ≤ 9223372036854775807)])
    | .eql => some (.bool (a == b), [])
    | .neq => some (.bool (!(a == b)), [])
    | .lss => some (.bool (Op.bytesLess a b), [])
    | .leq => some (.bool (Op.bytesLess a b || a == b), [])
    | .gtr => some (.bool (!(Op.bytesLess a b || a == b)), [])
    | .geq => some (.bool (!(Op.bytesLess a b)), [])
    | _ => none
  | _, _ => none

def setAt (cs : List V) (off : Nat) (vs : List V) : List V :=
  match vs with
  | [] => cs
  | v :: r => setAt (cs.set off v) (off + 1) r

/-- the cells of a part -/
def V.parts : V → Option (List V)
  | .agg cs => some cs
  | .top => none
  | .tup _ => none
  | .gd _ _ => none
  | .ub _ _ => none
  | v => some [v]

def fillV (st : St) (gc : Bool) : List V → List (Nat × Nat × Ar) → Option (List V × List Bool)
  | cs, [] => some (cs, [])
  | cs, (off, n, x) :: r =>
    match rd gc st x with
    | (v, p) =>
      match v.parts with
      | none => none
      | some ps =>
        if ps.length = n ∧ off + n ≤ cs.length then
          match fillV st gc (setAt cs off ps) r with
          | some (c, q) => some (c, p ++ q)
          | none => none
        else none

def capsOf (st : St) : List Ar → Option (List (Nat × Nat))
  | [] => some []
  | x :: r =>
    match x.v st, capsOf st r with
    | .ptr k o, some cs => some ((k, o) :: cs)
    | _, _ => none

def allLen (sz : Nat) (xs : List (List T)) : Bool := xs.all fun c => c.length == sz

def bnd (x : Option Ar) (gc : Bool) (st : St) (d : Int) : Option (Int × List Bool) :=
  match x with
  | none => some (d, [])
  | some x => match rd gc st x with | (.t (.int _ n), p) => some (n, p) | _ => none

def KSh.ok : KSh → T → Bool
  | .bool, .bool _ => true
  | .int k, .int k' _ => decide (k = k')
  | .str, .str _ => true
  | .ptr, .ad _ _ => true
  | _, _ => false
def keyOk : List KSh → List T → Bool
  | [], [] => true
  | s :: r, x :: c => s.ok x && keyOk r c
  | _, _ => false
def T.eqb : T → T → Bool
  | .bool a, .bool b => a == b
  | .int _ a, .int _ b => a == b
  | .str a, .str b => a == b
  | .ad a _, .ad b _ => decide (a = b)
  | _, _ => false
def keyEq : List T → List T → Bool
  | [], [] => true
  | x :: r, y :: c => x.eqb y && keyEq r c
  | _, _ => false
def keysOk (ks : List KSh) (es : List (List T × V)) : Bool := es.all fun e => keyOk ks e.1
/-- where a key stands -/
def mfind (k : List T) : List (List T × V) → Option Nat
  | [] => none
  | e :: r => if keyEq k e.1 then some 0 else (mfind k r).map (· + 1)
def mget (k : List T) : List (List T × V) → Option V
  | [] => none
  | e :: r => if keyEq k e.1 then some e.2 else mget k r
def mset (k : List T) (v : V) : List (List T × V) → List (List T × V)
  | [] => [(k, v)]
  | e :: r => if keyEq k e.1 then (k, v) :: r else e :: mset k v r
def mdrop (k : List T) : List (List T × V) → List (List T × V)
  | [] => []
  | e :: r => if keyEq k e.1 then r else e :: mdrop k r
def V.isAgg : V → Bool
  | .agg _ => true
  | _ => false
/-- a key -/
def keyC (ks : List KSh) (kag : Bool) (v : V) : Option (List T) :=
  match v.cellsT with
  | some cs => if keyOk ks cs && v.isAgg == kag then some cs else none
  | none => none
def okV (ok : Bool) (v : V) (b : Bool) : V := if ok then .tup [v, .t (.bool b)] else v

/-- the stamps, without that of an entry -/
def sdrop (i : Option Nat) : Option (Nat × List Nat) → Option (Nat × List Nat)
  | some (c, bs) => some (c, match i with | some i => bs.eraseIdx i | none => bs)
  | none => none
/-- a key as a value -/
def keyV (kag : Bool) (cs : List T) : V := if kag then .agg (cs.map V.t) else match cs with | [x] => .t x | _ => .top
/-- an entry, by its stamp -/
def entAt (z : Nat) : List (List T × V) → List Nat → Option (List T × V)
  | e :: r, b :: bs => if b = z then some e else entAt z r bs
  | _, _ => none
/-- bytes -/
def u8s : List (List T) → Option (List Int)
  | [] => some []
  | [.int .u8 n] :: r => (u8s r).map (n :: ·)
  | _ => none
/-- bytes as a string -/
def u8S (xs : List (List T)) : Option V := match u8s xs with | some (n :: r) => some (.t (.str ((n :: r).map fun n => UInt8.ofNat n.toNat))) | _ => none
/-- the new operations that only compute -/
def evalN (gc : Bool) (st : St) : NOp → Option (V × List Bool)
  | .lookup ks kag zv ok x k =>
    match rd gc st x, rd gc st k with
    | (vx, p1), (vk, p2) =>
      match keyC ks kag vk with
      | none => none
      | some cs =>
        match vx with
        | .mp q =>
          match aget st.s.sto q with
          | some (.map kag' es _) =>
            match mget cs es with
            | some v => some (okV ok v true, p1 ++ (p2 ++ [kag' == kag, keysOk ks es]))
            | none => some (okV ok zv false, p1 ++ (p2 ++ [kag' == kag, keysOk ks es]))
          | _ => none
        | .t .nilm => some (okV ok zv false, p1 ++ p2)
        | _ => none
  | .eqn neg x =>
    match rd gc st x with
    | (.nils, p) => some (.ub True True, p)
    | (.slc _ _ _ _, p) => some (.t (.bool neg), p)
    | (.own _ _ xs, p) => some (if neg then .ub True (∀ c ∈ xs, c = []) else .ub (∀ c ∈ xs, c = []) True, p)
    | (.t (.lst xs), p) => some (if neg then .ub True (∀ c ∈ xs, c = []) else .ub (∀ c ∈ xs, c = []) True, p)
    | _ => none
  | .eqst neg ks x y =>
    match rd gc st x, rd gc st y with
    | (vx, p1), (vy, p2) =>
      match keyC ks true vx, keyC ks true vy with
      | some cs, some ds => some (.t (.bool (if neg then !(keyEq cs ds) else keyEq cs ds)), p1 ++ p2)
      | _, _ => none
  | .xtr cnt x y =>
    match rd gc st x, rd gc st y with
    | (.t (.str s), p1), (.t (.int .u8 c), p2) => some (.t (.int .i64 (if cnt then (Go.Lib.countByte s c.toNat.toUInt8 : Int) else Go.Lib.indexByte s c.toNat.toUInt8)), p1 ++ p2)
    | _, _ => none
  | .xcm x y =>
    match rd gc st x, rd gc st y with
    | (.t (.str s), p1), (.t (.str r), p2) => some (.t (.int .i64 (Go.Lib.compareBytes s r)), p1 ++ p2)
    | _, _ => none
  | .bstr x =>
    match rd gc st x with
    | (.t (.lst xs), p) => (u8S xs).map fun v => (v, p)
    | (.own _ _ xs, p) => (u8S xs).map fun v => (v, p)
    | _ => none
  | .ient x =>
    match rd gc st x with
    | (.ptr k 0, p) =>
      match aget st.s.sto k with
      | some (.iter q _ seen c) =>
        match aget st.s.sto q, seen.getLast? with
        | some (.map kag es (some (c', bs))), some z =>
          match entAt z es bs with
          | some e => some (.tup [keyV kag e.1, e.2], p ++ [decide (c' = c), decide (bs.Nodup)])
          | none => none
        | _, _ => none
      | _ => none
    | _ => none
  | _ => none

/-- Operations that only compute: their value, and what must hold. -/
def evalE (gc : Bool) (st : St) : AOp → Option (V × List Bool)
  | .nw op => evalN gc st op
  | .cst v => some (v, [])
  | .mv x => some (rd gc st x)
  | .pick c a b =>
    match rd gc st c with
    | (.t (.bool cb), p1) =>
      match rd (gc && cb) st a, rd (gc && !cb) st b with
      | (.t (.bool xa), p2), (.t (.bool xb), p3) => some (.t (.bool (bif cb then xa else xb)), p1 ++ (p2 ++ p3))
      | (.t (.bool xa), p2), (_, _) => some (.t (.bool xa), p1 ++ (p2 ++ [cb]))
      | (_, _), (.t (.bool xb), p3) => some (.t (.bool xb), p1 ++ (p3 ++ [!cb]))
      | _, _ => none
    | _ => none
  | .un .not x => match rd gc st x with | (.t (.bool b), p) => some (.t (.bool (!b)), p) | _ => none
  | .un .neg x => match rd gc st x with | (.t (.int k n), p) => some (.t (.int k (k.wrap (0 - n))), p) | _ => none
  | .un _ _ => none
  | .bin op x y =>
    match rd gc st x, rd gc st y with
    | (.t a, p1), (.t b, p2) => (binT op a b).map fun (r, p3) => (.t r, p1 ++ (p2 ++ p3))
    | (.ui k, p1), (.t (.int k' _), p2) =>
      if k = k' then
        match op with
        | .add => some (.ui k, p1 ++ p2)
        | .gtr => some (.ub True True, p1 ++ p2)
        | _ => none
      else none
    | _, _ => none
  | .eqb neg x y =>
    match rd gc st x, rd gc st y with
    | (.t (.bool a), p1), (.t (.bool b), p2) => some (.t (.bool (if neg then !(a == b) else a == b)), p1 ++ p2)
    | _, _ => none
  | .eqp neg x =>
    match rd gc st x with
    | (.t .nilp, p) => some (.t (.bool (!neg)), p)
    | (.ptr _ _, p) => some (.t (.bool neg), p)
    | (.t (.ptr _), p) => some (.t (.bool neg), p)
    | (.fpt _ _ _, p) => some (.t (.bool neg), p)
    | (.gpt k ver _, p) => match aget st.s.sto k with | some (.gro w _) => some (.t (.bool neg), p ++ [decide (ver = w)]) | _ => none
    | _ => none
  | .eqm neg x =>
    match rd gc st x with
    | (.t .nilm, p) => some (.t (.bool (!neg)), p)
    | (.mp _, p) => some (.t (.bool neg), p)
    | _ => none
  | .conv k x => match rd gc st x with | (.t (.int _ n), p) => some (.t (.int k (k.wrap n)), p) | _ => none
  | .convs x => match rd gc st x with | (.t (.str s), p) => some (.t (.str s), p) | _ => none
  | .nilck x =>
    match rd gc st x with
    | (.ptr k o, p) => some (.ptr k o, p)
    | (.t (.ptr cs), p) => some (.t (.ptr cs), p)
    | (.t (.fn f), p) => some (.t (.fn f), p)
    | (.fn f c, p) => some (.fn f c, p)
    | (.fpt k i o, p) => some (.fpt k i o, p)
    | (.gpt k ver o, p) => match aget st.s.sto k with | some (.gro w _) => some (.gpt k ver o, p ++ [decide (ver = w)]) | _ => none
    | _ => none
  | .fa off x =>
    match rd gc st x with
    | (.ptr k o, p) => some (.ptr k (o + off), p)
    | (.t (.ptr cs), p) => some (.t (.ptr (cs.drop off)), p)
    | (.fpt k i o, p) => some (.fpt k i (o + off), p)
    | (.gpt k ver o, p) => match aget st.s.sto k with | some (.gro w _) => some (.gpt k ver (o + off), p ++ [decide (0 < w), decide (ver = w)]) | _ => none
    | _ => none
  | .ld ag n x =>
    match rd gc st x with
    | (.t (.ptr cs), p) =>
      if ag then (if n ≤ cs.length then some (.agg ((cs.take n).map V.t), p) else none)
      else match cs[0]? with | some c => some (.t c, p) | none => none
    | (.ptr k o, p) =>
      match aget st.s.sto k with
      | some (.cells cs) =>
        if ag then (if o + n ≤ cs.length then some (.agg (((cs.drop o).take n)), p) else none)
        else match cs[o]? with | some c => some (c, p) | none => none
      | _ => none
    | (.gpt k ver o, p) =>
      match aget st.s.sto k with
      | some (.gro w cs) =>
        if ag then (if o + n ≤ cs.length then some (.agg (((cs.drop o).take n)), p ++ [decide (0 < w), decide (ver = w)]) else none)
        else match cs[o]? with | some c => some (c, p ++ [decide (0 < w), decide (ver = w)]) | none => none
      | _ => none
    | (.fpt k i o, p) =>
      match aget st.s.sto k with
      | some (.fobs os) =>
        match os[i]? with
        | some cs =>
          if ag then (if o + n ≤ cs.length then some (.agg (((cs.drop o).take n)), p) else none)
          else match cs[o]? with | some c => some (c, p) | none => none
        | none => none
      | _ => none
    | _ => none
  | .ia sz x i =>
    match rd gc st x, rd gc st i with
    | (v, p1), (.t (.int _ n), p2) =>
      match v with
      | .slc k off len s => if s = sz then some (.ptr k (off + n.toNat * sz), p1 ++ (p2 ++ [decide (0 ≤ n), decide (n < (len : Int))])) else none
      | .gsl k ver off len s =>
        match aget st.s.sto k with
        | some (.gro w _) => if s = sz then some (.gpt k ver (off + n.toNat * sz), p1 ++ (p2 ++ [decide (0 ≤ n), decide (n < (len : Int)), decide (0 < w), decide (ver = w)])) else none
        | _ => none
      | v => match v.cell1 with
        | some (.lst xs) => match xs[n.toNat]? with
          | some c => if c.length = sz ∧ sz ≠ 0 then some (.t (.ptr c), p1 ++ (p2 ++ [decide (0 ≤ n)])) else none
          | none => none
        | _ => none
    | _, _ => none
  | .iarr len sz x i =>
    match rd gc st x, rd gc st i with
    | (.ptr k o, p1), (.t (.int _ n), p2) => some (.ptr k (o + n.toNat * sz), p1 ++ (p2 ++ [decide (0 ≤ n), decide (n < (len : Int))]))
    | (.t (.ptr cs), p1), (.t (.int _ n), p2) => some (.t (.ptr (cs.drop (n.toNat * sz))), p1 ++ (p2 ++ [decide (0 ≤ n), decide (n < (len : Int))]))
    | _, _ => none
  | .ixs x i =>
    match rd gc st x, rd gc st i with
    | (.t (.str s), p1), (.t (.int _ n), p2) => match s[n.toNat]? with
      | some b => some (.t (.int .u8 b.toNat), p1 ++ (p2 ++ [decide (0 ≤ n)]))
      | none => none
    | _, _ => none
  | .ixa ag len sz x i =>
    match rd gc st x, rd gc st i with
    | (.agg cs, p1), (.t (.int _ n), p2) =>
      if ag then (if n.toNat * sz + sz ≤ cs.length then some (.agg (((cs.drop (n.toNat * sz)).take sz)), p1 ++ (p2 ++ [decide (0 ≤ n), decide (n < (len : Int))])) else none)
      else match cs[n.toNat * sz]? with | some c => some (c, p1 ++ (p2 ++ [decide (0 ≤ n), decide (n < (len : Int))])) | none => none
    | _, _ => none
  | .len x =>
    match rd gc st x with
    | (.t (.lst xs), p) => some (.t (.int .i64 xs.length), p)
    | (.own _ _ xs, p) => some (.t (.int .i64 xs.length), p)
    | (.nils, p) => some (.t (.int .i64 0), p)
    | (.slc _ _ n _, p) => some (.t (.int .i64 n), p)
    | (.gsl k ver _ n _, p) => match aget st.s.sto k with | some (.gro w _) => some (.t (.int .i64 n), p ++ [decide (ver = w)]) | _ => none
    | (.fow _ _ _ xs, p) => some (.t (.int .i64 xs.length), p)
    | _ => none
  | .lens x => match rd gc st x with | (.t (.str s), p) => some (.t (.int .i64 s.length), p) | _ => none
  | .sls x lo hi =>
    match rd gc st x with
    | (.t (.str s), p) =>
      match bnd lo gc st 0, bnd hi gc st s.length with
      | some (l, p1), some (h, p2) => some (.t (.str ((s.take h.toNat).drop l.toNat)), p ++ (p1 ++ (p2 ++ [decide (0 ≤ l), decide (l ≤ h), decide (h ≤ (s.length : Int))])))
      | _, _ => none
    | _ => none
  | .sll sz x lo hi =>
    match rd gc st x with
    | (v, p) => match v.cell1 with
      | some (.lst xs) =>
        match bnd lo gc st 0, bnd hi gc st xs.length with
        | some (l, p1), some (h, p2) => some (.t (.lst ((xs.take h.toNat).drop l.toNat)), p ++ (p1 ++ (p2 ++ [decide (0 ≤ l), decide (l ≤ h), decide (h ≤ (xs.length : Int)), allLen sz xs])))
        | _, _ => none
      | _ => match v with
        | .slc k off len s =>
          match bnd lo gc st 0, bnd hi gc st len with
          | some (l, p1), some (h, p2) => some (.slc k off h.toNat s, p ++ (p1 ++ (p2 ++ [decide (l = 0), decide (0 ≤ h), decide (h ≤ (len : Int)), s == sz])))
          | _, _ => none
        | .gsl k ver off len s =>
          match aget st.s.sto k, bnd lo gc st 0, bnd hi gc st len with
          | some (.gro w _), some (l, p1), some (h, p2) => some (.gsl k ver (off + l.toNat * s) (h.toNat - l.toNat) s, p ++ (p1 ++ (p2 ++ [decide (0 ≤ l), decide (l ≤ h), decide (h ≤ (len : Int)), s == sz, decide (ver = w)])))
          | _, _, _ => none
        | _ => none
  | .fld ag off n x =>
    match rd gc st x with
    | (.agg cs, p) =>
      if ag then (if off + n ≤ cs.length then some (.agg (((cs.drop off).take n)), p) else none)
      else match cs[off]? with | some c => some (c, p) | none => none
    | _ => none
  | .maxi x y =>
    match rd gc st x, rd gc st y with
    | (.t (.int k a), p1), (.t (.int k' b), p2) => if k = k' then some (.t (.int k (if b > a then b else a)), p1 ++ p2) else none
    | _, _ => none
  | .mini x y =>
    match rd gc st x, rd gc st y with
    | (.t (.int k a), p1), (.t (.int k' b), p2) => if k = k' then some (.t (.int k (if b < a then b else a)), p1 ++ p2) else none
    | _, _ => none
  | .build zs ps =>
    match fillV st gc zs ps with
    | some (cs, p) => some (.agg cs, p)
    | none => none
  | .ext x i =>
    match rd gc st x with
    | (.tup vs, p) => match vs[i]? with | some v => some (v, p) | none => none
    | _ => none
  | .mkfn f caps =>
    match capsOf st caps with
    | some cs => some (.fn f cs, [])
    | none => none
  | _ => none

def pureParts (st : St) (sz : Nat) : List (List T) → List (Nat × Ar) → Option (List (List T))
  | xs, [] => some xs
  | xs, (i, x) :: r =>
    match (x.u st).cellsT with
    | some c => if c.length = sz ∧ i < xs.length then pureParts st sz (xs.set i c) r else none
    | none => none

/-- may a value lie in a cell? -/
def V.cellOk : V → Bool
  | .t _ => true
  | .nils => true
  | .own _ _ _ => true
  | .slc _ _ _ _ => true
  | .ptr _ _ => true
  | .mp _ => true
  | .fn _ _ => true
  | .fpt _ _ _ => true
  | .gpt _ _ _ => true
  | .gsl _ _ _ _ _ => true
  | .fow _ _ _ _ => true
  | .ui _ => true
  | _ => false

def pall : List Bool → Prop
  | [] => True
  | p :: r => p = true ∧ pall r

/-- does a reading operation look at an object? -/
def looksV : V → Bool
  | .ptr _ _ => true
  | .mp _ => true
  | .fpt _ _ _ => true
  | .gpt _ _ _ => true
  | .gd _ (.ptr _ _) => true
  | .gd _ (.mp _) => true
  | .gd _ (.fpt _ _ _) => true
  | .gd _ (.gpt _ _ _) => true
  | _ => false
/-- a value of a growing array: operations on it look at how far it has grown -/
def looksG : V → Bool
  | .gpt _ _ _ => true
  | .gsl _ _ _ _ _ => true
  | .gd _ (.gpt _ _ _) => true
  | .gd _ (.gsl _ _ _ _ _) => true
  | _ => false
def looksE (st : St) : AOp → Bool
  | .fa _ x => looksG (x.v st)
  | .nilck x => looksG (x.v st)
  | .eqp _ x => looksG (x.v st)
  | .ia _ x _ => looksG (x.v st)
  | .len x => looksG (x.v st)
  | .sll _ x _ _ => looksG (x.v st)
  | .ld _ _ x => looksV (x.v st)
  | .nw (.lookup _ _ _ _ x _) => looksV (x.v st)
  | .nw (.ient x) => looksV (x.v st)
  | _ => false

/-- the function has a body -/
def HasB (P : Program) (f : FuncId) : Prop := ∀ args w, (callFunc f args).run P w = .ok (.enter f args) w

/-- A call, in a store: what it hands back and does to the store. -/
def FnAt (P : Program) (f : FuncId) (vs : List V) (base : Nat) (sto : List (Nat × AObj)) (out : Out) : Prop :=
  HasB P f ∧ (∀ k o, (k, o) ∈ out.ob → aget sto k ≠ none ∨ (base ≤ k ∧ k < base + out.n)) ∧
  ∀ (Λ : L) (args : Array Value), RelS Λ ⟨sto, Λ.nxt⟩ → base + out.n ≤ Λ.nxt → (∀ k, base ≤ k → k < base + out.n → k < Λ.nxt ∧ Free Λ k ∧ aget sto k = none) → args.size = vs.length → (∀ (j : Nat) (v : Value) (x : V), args[j]? = some v → vs[j]? = some x → RelV Λ v x) →
    Calls P f args Λ.w fun e w' => ∃ v Λ', e = .returned v ∧ Λ'.w = w' ∧ Kp Λ Λ' ∧ Λ'.nxt = Λ.nxt ∧ RelS Λ' ⟨asets sto out.ob, Λ.nxt⟩ ∧ RelV Λ' v out.v ∧
      ∀ k, Free Λ k → aget sto k = none → (base + out.n ≤ k ∨ (k < base ∧ out.rd = false)) → Free Λ' k

def argsV (st : St) : List Ar → List V
  | [] => []
  | x :: r => x.u st :: argsV st r

def capsV : List (Nat × Nat) → List V
  | [] => []
  | (k, o) :: r => .ptr k o :: capsV r

/-- the same in every store that has the same objects under the names in use -/
def FnL (P : Program) (f : FuncId) (vs : List V) (base : Nat) (sto : List (Nat × AObj)) (out : Out) : Prop :=
  ∀ s, (∀ k, k < base → aget s k = aget sto k) → FnAt P f vs base s out

/-- a call's contract: without objects it must hold in every store -/
def FnEv (P : Program) (f : FuncId) (vs : List V) (base : Nat) (sto : List (Nat × AObj)) (K : Out → Prop) : Prop :=
  ∃ out, (if out.rd then FnL P f vs base sto out else ∀ s, FnAt P f vs base s out) ∧ K out
/-- the same of a call of a function value -/
def FnEvS (P : Program) (f : FuncId) (vs : List V) (base : Nat) (sto : List (Nat × AObj)) (K : Out → Prop) : Prop :=
  ∃ out, (if out.rd then FnAt P f vs base sto out else ∀ s, FnAt P f vs base s out) ∧ K out

/-- a call under a guard that changes nothing: its contract is asked where the guard holds -/
def FnEvG (P : Program) (gc : Bool) (f : FuncId) (vs : List V) (base : Nat) (sto : List (Nat × AObj)) (K : Out → Prop) : Prop :=
  ∃ out : Out, (gc = true → (if out.rd then FnAt P f vs base sto out else ∀ s, FnAt P f vs base s out)) ∧ (out.ob = [] ∧ out.n = 0) ∧ K { out with v := .gd gc out.v }

def callG (P : Program) (gc : Bool) (base : Nat) (st : St) (K : Out → Prop) : AOp → Prop
  | .call f args => FnEvG P gc f (argsV st args) base st.s.sto K
  | _ => False

/-- a look at a map whose keys hold pointers: empty, or its first key is this one -/
def pget (ks : List KSh) (cs : List T) : List (List T × V) → Option (Option V)
  | [] => some none
  | e :: _ => if keyOk ks e.1 && keyEq cs e.1 then some (some e.2) else none
def pset (ks : List KSh) (cs : List T) (v : V) : List (List T × V) → Option (List (List T × V))
  | [] => some [(cs, v)]
  | e :: r => if keyOk ks e.1 && keyEq cs e.1 then some ((cs, v) :: r) else none

/-- the new operations that change objects -/
def evXN (st : St) (K : Out → Prop) : NOp → Prop
  | .mupd ks kag x k v =>
    match x.u st, keyC ks kag (k.u st) with
    | .mp q, some cs =>
      match aget st.s.sto q with
      | some (.map kag' es _) => (kag' = kag ∧ keysOk ks es = true) ∧ K { v := .top, ob := [(q, .map kag (mset cs (v.u st) es) none)], rd := true }
      | _ => False
    | _, _ => False
  | .mdel ks kag x k =>
    match x.u st, keyC ks kag (k.u st) with
    | .mp q, some cs =>
      match aget st.s.sto q with
      | some (.map kag' es sx) => (kag' = kag ∧ keysOk ks es = true) ∧ K { v := .top, ob := [(q, .map kag (mdrop cs es) (sdrop (mfind cs es) sx))], rd := true }
      | _ => False
    | _, _ => False
  | .mclr x =>
    match x.u st with
    | .mp q =>
      match aget st.s.sto q with
      | some (.map kag _ _) => K { v := .top, ob := [(q, .map kag [] none)], rd := true }
      | _ => False
    | _ => False
  | .ment ks kag zv x k =>
    match x.u st, keyC ks kag (k.u st) with
    | .mp q, some cs =>
      match aget st.s.sto q with
      | some (.map kag' es (some (c, bs))) =>
        match mfind cs es with
        | some i =>
          match es[i]?, bs[i]? with
          | some e, some b => (kag' = kag ∧ keysOk ks es = true) ∧ K { v := .tup [e.2, .t (.int .i64 b)], ob := [(q, .map kag es (some (c, bs)))], rd := true }
          | _, _ => False
        | none => (kag' = kag ∧ keysOk ks es = true) ∧ K { v := .tup [zv, .t (.int .i64 c)], ob := [(q, .map kag (es ++ [(cs, zv)]) (some (c + 1, bs ++ [c])))], rd := true }
      | _ => False
    | _, _ => False
  | .ests x s v =>
    match x.u st, s.u st with
    | .mp q, .t (.int _ z) =>
      match aget st.s.sto q with
      | some (.map kag es (some (c, bs))) =>
        match bs.findIdx? (fun b : Nat => decide (((b : Nat) : Int) = z)) with
        | some i => K { v := .top, ob := [(q, .map kag (es.modify i fun e => (e.1, v.u st)) (some (c, bs)))], rd := true }
        | none => False
      | _ => False
    | _, _ => False
  | .plook ks zv x k =>
    match x.u st, keyC ks true (k.u st) with
    | .mp q, some cs =>
      match aget st.s.sto q with
      | some (.map true es _) =>
        match pget ks cs es with
        | some (some v) => K { v := .tup [v, .t (.bool true)], rd := true }
        | some none => K { v := .tup [zv, .t (.bool false)], rd := true }
        | none => False
      | _ => False
    | _, _ => False
  | .pupd ks x k v =>
    match x.u st, keyC ks true (k.u st) with
    | .mp q, some cs =>
      match aget st.s.sto q with
      | some (.map true es _) =>
        match pset ks cs (v.u st) es with
        | some fs => K { v := .top, ob := [(q, .map true fs none)], rd := true }
        | none => False
      | _ => False
    | _, _ => False
  | _ => False

/-- the cells of a slice that is appended, and of how many elements they are -/
def addV (st : St) (sz : Nat) (y : V) : Option (List V × Nat) :=
  match y.cell1 with
  | some (.lst ys) => if allLen sz ys then some (ys.flatten.map V.t, ys.length) else none
  | _ =>
    match y with
    | .slc k off len s =>
      match aget st.s.sto k with
      | some (.cells cs) => if s = sz ∧ off + len * sz ≤ cs.length then some ((cs.drop off).take (len * sz), len) else none
      | _ => none
    | .gsl k r off len s =>
      match aget st.s.sto k with
      | some (.gro r' cs) => if s = sz ∧ r = r' ∧ off + len * sz ≤ cs.length then some ((cs.drop off).take (len * sz), len) else none
      | _ => none
    | _ => none

/-- Operations that change more than their slot. -/
def evX (P : Program) (base : Nat) (st : St) (K : Out → Prop) : AOp → Prop
  | .st n x v =>
    match x.u st with
    | .ptr k o =>
      match aget st.s.sto k with
      | some (.cells cs) =>
        match (v.u st).parts with
        | some vs => (decide (vs.length = n ∧ o + n ≤ cs.length) = true ∧ vs.all V.cellOk = true) ∧ K { v := .top, ob := [(k, .cells (setAt cs o vs))], rd := true }
        | none => False
      | _ => False
    | _ => False
  | .box n x =>
    match (x.u st).parts with
    | some vs => (decide (vs.length = n) = true ∧ vs.all V.cellOk = true) ∧ K { v := .ptr base 0, ob := [(base, .cells vs)], n := 1 }
    | none => False
  | .alloc zs => K { v := .ptr base 0, ob := [(base, .cells zs)], n := 1 }
  | .bsl ow sz zs ps =>
    match pureParts st sz zs ps with
    | some xs => allLen sz xs = true ∧ (if ow then (if xs.isEmpty then K { v := .nils } else K { v := .own base sz xs, ob := [(base, .arr xs.length)], n := 1 }) ∨ K { v := .t (.lst xs) } else K { v := .t (.lst xs) })
    | none => False
  | .app sz bytes x y =>
    match (y.u st).cell1 with
    | some (.lst ys) =>
      match x.u st with
      | .nils => allLen sz ys = true ∧ ys.length * bytes ≤ 140737488355328 ∧ ys.length ≤ 9223372036854775807 ∧ K { v := .own base sz ys, ob := [(base, .arr ys.length)], n := 1 }
      | .own k s xs =>
        match aget st.s.sto k with
        | some (.arr n) => s = sz ∧ n = xs.length ∧ allLen sz ys = true ∧ (xs.length + ys.length) * bytes ≤ 140737488355328 ∧ xs.length + ys.length ≤ 9223372036854775807 ∧
            K { v := .own k sz (xs ++ ys), ob := [(k, .arr (xs.length + ys.length))], rd := true }
        | _ => False
      | _ => False
    | _ => False
  | .mksl sz bytes z n =>
    match n.u st with
    | .t (.int _ m) => (0 ≤ m ∧ m * bytes ≤ 281474976710656 ∧ m ≤ 9223372036854775807 ∧ z.length = sz) ∧
        K { v := .slc base 0 m.toNat sz, ob := [(base, .cells (List.replicate m.toNat z).flatten)], n := 1 }
    | _ => False
  | .call f args => FnEv P f (argsV st args) base st.s.sto K
  | .callv x args =>
    match x.u st with
    | .t (.fn f) => FnEvS P f (argsV st args) base st.s.sto K
    | .fn f caps => FnEvS P f (argsV st args ++ capsV caps) base st.s.sto K
    | _ => False
  | .mkmap kag _ => K { v := .mp base, ob := [(base, .map kag [] (some (0, [])))], n := 1 }
  | .mrange x =>
    match x.u st with
    | .mp q =>
      match aget st.s.sto q with
      | some (.map _ _ (some (c, _))) => K { v := .ptr base 0, ob := [(base, .iter q c [] c)], n := 1, rd := true }
      | _ => False
    | _ => False
  | .lenm x =>
    match x.u st with
    | .t .nilm => K { v := .t (.int .i64 0), rd := true }
    | .mp q =>
      match aget st.s.sto q with
      | some (.map _ es _) => K { v := .t (.int .i64 es.length), rd := true }
      | _ => False
    | _ => False
  | .nw op => evXN st K op
  | _ => False

/-- the cells of a slice literal whose parts may be values of any kind -/
def objParts (st : St) (sz : Nat) : List V → List (Nat × Ar) → Option (List V)
  | cs, [] => some cs
  | cs, (i, x) :: r =>
    match (x.u st).parts with
    | some ps => if ps.length = sz ∧ i * sz + sz ≤ cs.length ∧ ps.all V.cellOk = true then objParts st sz (setAt cs (i * sz) ps) r else none
    | none => none

/-- More operations that change more than their slot: what they may do. -/
inductive YOut (st : St) (base : Nat) : AOp → Out → Prop
  | stG {n : Nat} {x v : Ar} {k ver o w : Nat} {cs vs : List V} (hx : x.u st = .gpt k ver o) (hk : aget st.s.sto k = some (.gro w cs)) (hw : ver = w) (hv : (v.u st).parts = some vs) (hn : vs.length = n) (ho : o + n ≤ cs.length) (hc : vs.all V.cellOk = true) :
      YOut st base (.st n x v) { v := .top, ob := [(k, .gro w (setAt cs o vs))], rd := true }
  | stF {n : Nat} {x v : Ar} {k i o : Nat} {os : List (List V)} {cs vs : List V} (hx : x.u st = .fpt k i o) (hk : aget st.s.sto k = some (.fobs os)) (hi : os[i]? = some cs) (hv : (v.u st).parts = some vs) (hn : vs.length = n) (ho : o + n ≤ cs.length) (hc : vs.all V.cellOk = true) :
      YOut st base (.st n x v) { v := .top, ob := [(k, .fobs (os.set i (setAt cs o vs)))], rd := true }
  | boxF {n : Nat} {x : Ar} {k : Nat} {os : List (List V)} {vs : List V} (hk : aget st.s.sto k = some (.fobs os)) (hv : (x.u st).parts = some vs) (hn : vs.length = n) (hc : vs.all V.cellOk = true) :
      YOut st base (.box n x) { v := .fpt k os.length 0, ob := [(k, .fobs (os ++ [vs]))], rd := true }
  | allocF {zs : List V} {k : Nat} {os : List (List V)} (hk : aget st.s.sto k = some (.fobs os)) : YOut st base (.alloc zs) { v := .fpt k os.length 0, ob := [(k, .fobs (os ++ [zs]))], rd := true }
  | appF {sz bytes : Nat} {x y : Ar} {k i : Nat} {xs ys : List (List T)} {ns : List Nat} (hx : x.u st = .fow k i sz xs) (hy : (y.u st).cell1 = some (.lst ys)) (hk : aget st.s.sto k = some (.farr ns)) (hi : ns[i]? = some xs.length) (hl : allLen sz ys = true)
      (h1 : (xs.length + ys.length) * bytes ≤ 140737488355328) (h2 : xs.length + ys.length ≤ 9223372036854775807) :
      YOut st base (.app sz bytes x y) { v := .fow k i sz (xs ++ ys), ob := [(k, .farr (ns.set i (xs.length + ys.length)))], rd := true }
  | appN {sz bytes : Nat} {x y : Ar} {vs : List V} {m : Nat} (hx : x.u st = .nils) (hy : addV st sz (y.u st) = some (vs, m)) (hc : vs.all V.cellOk = true) (h1 : m * bytes ≤ 140737488355328) (h2 : m ≤ 9223372036854775807) :
      YOut st base (.app sz bytes x y) { v := .gsl base 1 0 m sz, ob := [(base, .gro 1 vs)], n := 1, rd := true }
  | appG {sz bytes : Nat} {x y : Ar} {k ver len w : Nat} {cs vs : List V} {m : Nat} (hx : x.u st = .gsl k ver 0 len sz) (hk : aget st.s.sto k = some (.gro w cs)) (hw : ver = w) (hl : cs.length = len * sz) (hy : addV st sz (y.u st) = some (vs, m)) (hc : vs.all V.cellOk = true)
      (h1 : (len + m) * bytes ≤ 140737488355328) (h2 : len + m ≤ 9223372036854775807) :
      YOut st base (.app sz bytes x y) { v := .gsl k (w + 1) 0 (len + m) sz, ob := [(k, .gro (w + 1) (cs ++ vs))], rd := true }
  | bslO {ow : Bool} {sz : Nat} {zs : List (List T)} {ps : List (Nat × Ar)} {cs : List V} (h : objParts st sz (zs.flatten.map V.t) ps = some cs) :
      YOut st base (.bsl ow sz zs ps) { v := .slc base 0 zs.length sz, ob := [(base, .cells cs)], n := 1 }
  | bslF {ow : Bool} {sz k : Nat} {zs xs : List (List T)} {ps : List (Nat × Ar)} {ns : List Nat} (h : pureParts st sz zs ps = some xs) (hk : aget st.s.sto k = some (.farr ns)) (h0 : 0 < xs.length) :
      YOut st base (.bsl ow sz zs ps) { v := .fow k ns.length sz xs, ob := [(k, .farr (ns ++ [xs.length]))], rd := true }
  | clrG {sz : Nat} {z : List V} {x : Ar} {k ver off len w : Nat} {cs : List V} (hx : x.u st = .gsl k ver off len sz) (hk : aget st.s.sto k = some (.gro w cs)) (hw : ver = w) (ho : off + len * sz ≤ cs.length) :
      YOut st base (.nw (.sclr sz z x)) { v := .top, ob := [(k, .gro w (setAt cs off (List.replicate len z).flatten))], rd := true }
def evY (base : Nat) (st : St) (K : Out → Prop) (op : AOp) : Prop := ∃ out, YOut st base op out ∧ K out

/-- an operation that changes more, under a guard -/
def guardX (P : Program) (gc : Bool) (base : Nat) (st : St) (K : Out → Prop) (op : AOp) : Prop :=
  callG P gc base st K op ∨ ((gc = true → evX P base st K op ∨ evY base st K op) ∧ (gc = false → K { v := .gd false .top, rd := looksE st op }))

def evU (P : Program) (base : Nat) (st : St) (op : AOp) (K : Out → Prop) : Prop :=
  match evalE true st op with
  | some (v, ps) => pall ps ∧ K { v := v, rd := looksE st op }
  | none => evX P base st K op ∨ evY base st K op

def gcond (want : Bool) : V → Option Bool
  | .t (.bool b) => some (cond want b (!b))
  | .gd c (.t (.bool b)) => some (c && cond want b (!b))
  | .gd false .top => some false
  | _ => none

def evO (P : Program) (base : Nat) (st : St) (ao : AO) (K : Out → Prop) : Prop :=
  match ao.g with
  | none => evU P base st ao.op K
  | some (s, want) =>
    match gcond want (look st.env s) with
    | none => False
    | some gc =>
      match evalE gc st ao.op with
      | some (v, ps) => pall (ps.map fun p => !gc || p) ∧ K { v := .gd gc v, rd := looksE st ao.op }
      | none => guardX P gc base st K ao.op

/-- A region, in the order of the text. -/
def evR (P : Program) (base : Nat) (st : St) : List AO → List (Bool × Bool) → (Nat → St → List (Bool × Bool) → Prop) → Prop
  | [], fl, K => K base st fl
  | ao :: r, fl, K => evO P base st ao fun out => evR P (base + out.n) (st.app ao.dst out) r (fl ++ [(out.rd, !out.ob.isEmpty || decide (0 < out.n))]) K

end Go.GB


/-
  GbD: the model's operations and code turned into abstract ones. What is chosen here is checked by the proofs behind it (whatever is chosen).
-/
namespace Go.GB

def szOf (P : Program) (t : TypeId) : Option Nat := (P.info? t).map (·.size)
def isAggT (P : Program) (t : TypeId) : Bool :=
  match P.underlying t with
  | some (.struct _) | some (.array _ _) => true
  | _ => false

/-- a literal of the program as an abstract value -/
def litV : Value → Option V
  | .bool b => some (.t (.bool b))
  | .int k n => some (.t (.int k n))
  | .string s => some (.t (.str s.data.toList))
  | .pointer none => some (.t .nilp)
  | .map none => some (.t .nilm)
  | .nilFunc => some (.t .nilf)
  | .slice none 0 0 => some .nils
  | _ => none

def opA : Operand → Option Ar
  | .tmp t => some (.s t)
  | .const v => (litV v).map .c
  | .func f => some (.c (.t (.fn f)))
  | .global _ => none

/-- an option of an operand, resolved -/
def opAo : Option Operand → Option (Option Ar)
  | some y => (opA y).map some
  | none => some none

/-- zero cells by type -/
def zeroV (P : Program) : Nat → TypeId → Option (List V)
  | 0, _ => none
  | n + 1, t =>
    match P.underlying t with
    | some .bool => some [.t (.bool false)]
    | some (.int k) => some [.t (.int k 0)]
    | some .string => some [.t (.str [])]
    | some (.pointer _) => some [.t .nilp]
    | some (.map _ _) => some [.t .nilm]
    | some (.func _ _ _) => some [.t .nilf]
    | some (.slice _) => some [.nils]
    | some (.struct fs) => fs.toList.foldr (fun f acc => match zeroV P n f.type, acc with | some a, some b => some (a ++ b) | _, _ => none) (some [])
    | some (.array k e) => (zeroV P n e).map fun z => (List.replicate k z).flatten
    | _ => none

/-- does a zero value's cell stand for the abstract one? -/
def zeroOk : Value → V → Bool
  | .bool b, .t (.bool c) => b == c
  | .int k n, .t (.int j m) => k == j && n == m
  | .string s, .t (.str l) => s.data.toList == l
  | .pointer none, .t .nilp => true
  | .map none, .t .nilm => true
  | .nilFunc, .t .nilf => true
  | .slice none 0 0, .nils => true
  | _, _ => false

def zerosOk : List Value → List V → Bool
  | [], [] => true
  | v :: vs, x :: xs => zeroOk v x && zerosOk vs xs
  | _, _ => false

/-- the zero cells of a type, checked against the program's own zero value -/
def zerosOf (P : Program) (t : TypeId) : Option (List V) :=
  match P.info? t, zeroV P 20 t with
  | some i, some zs =>
    match i.zero with
    | some z => if zerosOk z.cells.toList zs && zs.length == i.size then some zs else none
    | none => none
  | _, _ => none

/-- is a slot's value what an append of the region takes in? -/
def eaten (ops : Array Oper) (t : Nat) : Bool :=
  ops.any fun o =>
    match o.op with
    | .call { callee := .builtin .append, args, .. } => match (args[1]? : Option Operand) with | some (.tmp u) => u == t | _ => false
    | _ => false

def partsOf (place : Nat → Option (Nat × Nat)) : List (Nat × Operand) → Option (List (Nat × Nat × Ar))
  | [] => some []
  | (i, x) :: r =>
    match place i, opA x, partsOf place r with
    | some (off, n), some a, some l => some ((off, n, a) :: l)
    | _, _, _ => none

def placesOf (P : Program) (fs : Array Field) : Option (List (Nat × Nat)) := fs.toList.mapM (fun f => (P.info? f.type).map fun i => (f.offset, i.size))

def slotsOf : List (Nat × Operand) → Option (List (Nat × Ar))
  | [] => some []
  | (i, x) :: r =>
    match opA x, slotsOf r with
    | some a, some l => some ((i, a) :: l)
    | _, _ => none

/-- the functions on strings that the model answers itself -/
def xtrOf (P : Program) (f : FuncId) : Option (Option Bool) :=
  match P.funcs[f]? with
  | some fn =>
    if fn.body.isNone ∧ fn.origin = "" then
      if fn.name = "internal/bytealg.CountString" then some (some true)
      else if fn.name = "internal/bytealg.IndexByteString" then some (some false)
      else if fn.name = "internal/bytealg.abigen_runtime_cmpstring" then some none else none
    else none
  | none => none

def resOp (P : Program) (ops : Array Oper) (o : Oper) : Option AOp :=
  match o.op with
  | .move (.tmp t) | .assign (.tmp t) => some (.mv (.s t))
  | .move (.const v) | .assign (.const v) => (litV v).map .cst
  | .move (.func f) | .assign (.func f) => some (.cst (.t (.fn f)))
  | .pick c a b => do some (.pick (← opA c) (← opA a) (← opA b))
  | .unOp op _ x => do some (.un op (← opA x))
  | .binOp op xt x y _ =>
    match P.underlying xt with
    | some (.int _) | some .string => do some (.bin op (← opA x) (← opA y))
    | some .bool =>
      match op with
      | .eql => do some (.eqb false (← opA x) (← opA y))
      | .neq => do some (.eqb true (← opA x) (← opA y))
      | _ => none
    | some (.pointer _) =>
      match op, y with
      | .eql, .const (.pointer none) => do some (.eqp false (← opA x))
      | .neq, .const (.pointer none) => do some (.eqp true (← opA x))
      | _, _ => none
    | some (.map _ _) =>
      match op, y with
      | .eql, .const (.map none) => do some (.eqm false (← opA x))
      | .neq, .const (.map none) => do some (.eqm true (← opA x))
      | _, _ => none
    | _ => none
  | .convert src dst x =>
    match P.underlying src, P.underlying dst with
    | some (.int _), some (.int k) => do some (.conv k (← opA x))
    | some .string, some .string => do some (.convs (← opA x))
    | _, _ => none
  | .nilCheck x => do some (.nilck (← opA x))
  | .fieldAddr s x f =>
    match P.underlying s with
    | some (.struct fs) => do
      let fd ← fs[f]?
      let n ← szOf P fd.type
      if n = 0 then none else some (.fa fd.offset (← opA x))
    | _ => none
  | .load t x => do
    let n ← szOf P t
    match P.underlying t with
    | none => none
    | some _ =>
      if isAggT P t then some (.ld true n (← opA x))
      else some (.ld false 1 (← opA x))
  | .store t x v => do
    let n ← szOf P t
    some (.st n (← opA x) (← opA v))
  | .indexAddr t x ix =>
    match P.underlying t with
    | some (.slice e) => do some (.ia (← szOf P e) (← opA x) (← opA ix))
    | some (.array n e) => do some (.iarr n (← szOf P e) (← opA x) (← opA ix))
    | _ => none
  | .index t x ix =>
    match P.underlying t with
    | some .string => do some (.ixs (← opA x) (← opA ix))
    | some (.array n e) =>
      match P.underlying e with
      | none => none
      | some _ => do some (.ixa (isAggT P e) n (← szOf P e) (← opA x) (← opA ix))
    | _ => none
  | .slice t x lo hi none =>
    match P.underlying t with
    | some .string => do
      let l ← opAo lo
      let h ← opAo hi
      some (.sls (← opA x) l h)
    | some (.slice e) => do
      let l ← opAo lo
      let h ← opAo hi
      some (.sll (← szOf P e) (← opA x) l h)
    | _ => none
  | .field t x f =>
    match P.underlying t with
    | some (.struct fs) => do
      let fd ← fs[f]?
      let n ← szOf P fd.type
      match P.underlying fd.type with
      | none => none
      | some _ => some (.fld (isAggT P fd.type) fd.offset n (← opA x))
    | _ => none
  | .build t parts =>
    match P.underlying t with
    | some (.struct fs) => do
      let pl ← placesOf P fs
      some (.build (← zerosOf P t) (← partsOf (pl.toArray[·]?) parts.toList))
    | some (.array _ e) => do
      let sz ← szOf P e
      some (.build (← zerosOf P t) (← partsOf (fun i => some (i * sz, sz)) parts.toList))
    | _ => none
  | .makeFunc (.func f) first caps => do
    if first.isEmpty then some (.mkfn f (← caps.toList.mapM opA)) else none
  | .alloc t => do some (.alloc (← zerosOf P t))
  | .box t x => do some (.box (← szOf P t) (← opA x))
  | .buildSlice t n parts =>
    match P.underlying t with
    | some (.slice e) => do
      let sz ← szOf P e
      let zs ← zerosOf P e
      let z ← zs.mapM V.cell1
      if n * sz ≤ 16777216 then some (.bsl (!(o.dst.any (eaten ops))) sz (List.replicate n z) (← slotsOf parts.toList)) else none
    | _ => none
  | .extract x ix => do some (.ext (← opA x) ix)
  | .makeMap t none =>
    match P.underlying t with
    | some (.map k e) => some (.mkmap (isAggT P k) (isAggT P e))
    | _ => none
  | .makeSlice t (.tmp l) (.tmp c) =>
    match P.underlying t with
    | some (.slice e) => do
      let inf ← P.info? e
      if l = c then some (.mksl inf.size inf.bytes (← zerosOf P e) (.s l)) else none
    | _ => none
  | .call { callee := .builtin .len, args, argTypes } =>
    match argTypes[0]?, args[0]? with
    | some t, some x =>
      match P.underlying t with
      | some .string => do some (.lens (← opA x))
      | some (.slice _) => do some (.len (← opA x))
      | some (.map _ _) => do some (.lenm (← opA x))
      | _ => none
    | _, _ => none
  | .call { callee := .builtin .max, args, .. } =>
    match args.toList with
    | [x, y] => do some (.maxi (← opA x) (← opA y))
    | _ => none
  | .call { callee := .builtin .min, args, .. } =>
    match args.toList with
    | [x, y] => do some (.mini (← opA x) (← opA y))
    | _ => none
  | .call { callee := .builtin .append, args, argTypes } =>
    match args.toList, argTypes.toList with
    | [x, y], [t, u] =>
      if t = u then
        match P.underlying t with
        | some (.slice e) => do
          let inf ← P.info? e
          let z ← inf.zero
          if inf.size = 0 ∨ z.cells.size ≠ inf.size then none else some (.app inf.size inf.bytes (← opA x) (← opA y))
        | _ => none
      else none
    | _, _ => none
  | .call { callee := .value (.func f), args, .. } =>
    match xtrOf P f with
    | some _ => none
    | none => do some (.call f (← args.toList.mapM opA))
  | .call { callee := .value (.tmp t), args, .. } => do some (.callv (.s t) (← args.toList.mapM opA))
  | .range t x =>
    match P.underlying t with
    | some (.map _ _) => do some (.mrange (← opA x))
    | _ => none
  | _ => none

/-- the shape of a struct's cells, where all are plain -/
def fieldsSh (P : Program) : Nat → List Field → Option (List KSh)
  | _, [] => some []
  | i, f :: r =>
    if f.offset = i ∧ f.name ≠ "_" then
      match P.underlying f.type, fieldsSh P (i + 1) r with
      | some .bool, some l => some (.bool :: l)
      | some (.int k), some l => some (.int k :: l)
      | some .string, some l => some (.str :: l)
      | _, _ => none
    else none
/-- the shape of a key's type -/
def keySh (P : Program) (t : TypeId) : Option (List KSh × Bool) :=
  match P.underlying t with
  | some .bool => some ([.bool], false)
  | some (.int k) => some ([.int k], false)
  | some .string => some ([.str], false)
  | some (.struct fs) => if P.stoodInHeld t = false ∧ P.eqGuardType P.depth t = false then (fieldsSh P 0 fs.toList).map (·, true) else none
  | _ => none
/-- a type's zero as an abstract value -/
def zeroOne (P : Program) (t : TypeId) : Option V :=
  match zerosOf P t, (P.info? t).bind (·.zero) with
  | some zs, some (.agg _) => some (.agg zs)
  | some [z], some (.bool _) => some z
  | some [z], some (.int _ _) => some z
  | some [z], some (.string _) => some z
  | some [z], some (.pointer _) => some z
  | some [z], some (.slice _ _ _) => some z
  | some [z], some (.map _) => some z
  | _, _ => none

/-- the new operations -/
def resN (P : Program) (o : Oper) : Option NOp :=
  match o.op with
  | .lookup t x k ok =>
    match P.underlying t with
    | some (.map kt et) => do
      let (ks, kag) ← keySh P kt
      some (.lookup ks kag (← zeroOne P et) ok (← opA x) (← opA k))
    | _ => none
  | .mapUpdate t x k v =>
    match P.underlying t with
    | some (.map kt _) => do
      let (ks, kag) ← keySh P kt
      some (.mupd ks kag (← opA x) (← opA k) (← opA v))
    | _ => none
  | .mapEntry t x k =>
    match P.underlying t with
    | some (.map kt et) => do
      let (ks, kag) ← keySh P kt
      some (.ment ks kag (← zeroOne P et) (← opA x) (← opA k))
    | _ => none
  | .entryStore _ x s v => do some (.ests (← opA x) (← opA s) (← opA v))
  | .binOp op t x y _ =>
    match P.underlying t with
    | some (.slice _) =>
      match op, y with
      | .eql, .const (.slice none 0 0) => do some (.eqn false (← opA x))
      | .neq, .const (.slice none 0 0) => do some (.eqn true (← opA x))
      | _, _ => none
    | some (.struct _) =>
      match op, keySh P t with
      | .eql, some (ks, _) => do some (.eqst false ks (← opA x) (← opA y))
      | .neq, some (ks, _) => do some (.eqst true ks (← opA x) (← opA y))
      | _, _ => none
    | _ => none
  | .call { callee := .builtin .delete, args, argTypes } =>
    match args.toList, argTypes[0]? with
    | [x, k], some t =>
      match P.underlying t with
      | some (.map kt _) => do
        let (ks, kag) ← keySh P kt
        some (.mdel ks kag (← opA x) (← opA k))
      | _ => none
    | _, _ => none
  | .call { callee := .builtin .clear, args, argTypes } =>
    match args.toList, argTypes[0]? with
    | [x], some t =>
      match P.underlying t with
      | some (.map _ _) => do some (.mclr (← opA x))
      | some (.slice e) =>
        match szOf P e, zerosOf P e, opA x with
        | some sz, some z, some x' => if z.all V.cellOk = true then some (.sclr sz z x') else none
        | _, _, _ => none
      | _ => none
    | _, _ => none
  | .next x false => do some (.nxt (← opA x))
  | .entry x => do some (.ient (← opA x))
  | .call { callee := .value (.func f), args, .. } =>
    match xtrOf P f, args.toList with
    | some (some cnt), [x, y] => do some (.xtr cnt (← opA x) (← opA y))
    | some none, [x, y] => do some (.xcm (← opA x) (← opA y))
    | _, _ => none
  | .convert src dst x =>
    match P.underlying src, P.underlying dst with
    | some (.slice e), some .string =>
      match P.underlying e with
      | some (.int .u8) => do some (.bstr (← opA x))
      | _ => some .bad
    | _, _ => some .bad
  | _ => some .bad

/-- the cells of a key that holds structs or pointers -/
def deepFs (P : Program) (g : TypeId → Option (List KSh)) : Nat → List Field → Option (List KSh)
  | _, [] => some []
  | i, f :: r =>
    if f.offset = i ∧ f.name ≠ "_" then
      match g f.type with
      | some l => if isAggT P f.type = false ∧ l.length = 1 ∨ isAggT P f.type = true ∧ szOf P f.type = some l.length then (deepFs P g (i + l.length) r).map (l ++ ·) else none
      | none => none
    else none
def deepSh (P : Program) : Nat → TypeId → Option (List KSh)
  | 0, _ => none
  | d + 1, t =>
    match P.underlying t with
    | some .bool => some [.bool]
    | some (.int k) => some [.int k]
    | some .string => some [.str]
    | some (.pointer e) => if (P.info? e).isSome then some [.ptr] else none
    | some (.struct fs) => if P.stoodInHeld t = false then deepFs P (deepSh P d) 0 fs.toList else none
    | _ => none
/-- look-ups and writes of maps with such keys -/
def resK (P : Program) (o : Oper) : Option NOp :=
  match o.op with
  | .lookup t x k true =>
    match P.underlying t with
    | some (.map kt et) => if isAggT P kt = true then do
      let ks ← deepSh P 8 kt
      some (.plook ks (← zeroOne P et) (← opA x) (← opA k)) else none
    | _ => none
  | .mapUpdate t x k v =>
    match P.underlying t with
    | some (.map kt _) => if isAggT P kt = true then do
      let ks ← deepSh P 8 kt
      some (.pupd ks (← opA x) (← opA k) (← opA v)) else none
    | _ => none
  | _ => none
def resAll (P : Program) (ops : Array Oper) (o : Oper) : Option AOp :=
  match resOp P ops o with
  | some x => some x
  | none =>
    match resN P o with
    | some n => some (.nw n)
    | none => (resK P o).map .nw

def resO (P : Program) (ops : Array Oper) (o : Oper) : Option AO :=
  match resAll P ops o with
  | none => none
  | some op =>
    match o.guard with
    | none => some ⟨o.dst, none, op⟩
    | some (j, want) =>
      match (ops[j]?).bind (·.dst) with
      | some s => some ⟨o.dst, some (s, want), op⟩
      | none => none

def resOs (P : Program) (ops : Array Oper) : List Oper → Option (List AO)
  | [] => some []
  | o :: r =>
    match resO P ops o, resOs P ops r with
    | some a, some l => some (a :: l)
    | _, _ => none

inductive ACode where
  | skip
  | region (draw : Bool) (ops : List AO) (after : List (List Nat)) (live : List Nat)
  | seq (a b : ACode)
  | cond (c : Ar) (a b : ACode)
  | block (id : Nat) (c : ACode)
  | loop (c : ACode)
  | exit (id : Nat)
  | ret
  | scope (c : ACode)
  | lbl

def afterOf (ops : Array Oper) : List (List Nat) :=
  ops.toList.map fun o => (o.after.toList.filter (Region.binds .any)).map (·.on)

/-- the code, without its lists of live slots -/
def resC (P : Program) : Code → Option ACode
  | .skip => some .skip
  | .region _ ops draw =>
    match resOs P ops ops.toList with
    | some l => some (.region draw l (if draw then afterOf ops else []) [])
    | none => none
  | .seq a b => match resC P a, resC P b with | some x, some y => some (.seq x y) | _, _ => none
  | .cond c a b => match opA c, resC P a, resC P b with | some z, some x, some y => some (.cond z x y) | _, _, _ => none
  | .block id c => (resC P c).map (.block id)
  | .loop c => (resC P c).map .loop
  | .exit id => some (.exit id)
  | .ret => some .ret
  | .scope c => (resC P c).map .scope
  | .label _ => some .lbl
  | _ => none

def ACode.bare : ACode → ACode
  | .region d o a _ => .region d o a []
  | .seq a b => .seq a.bare b.bare
  | .cond c a b => .cond c a.bare b.bare
  | .block id c => .block id c.bare
  | .loop c => .loop c.bare
  | .scope c => .scope c.bare
  | c => c

end Go.GB


/-
  GaF: the operations that only compute: what the evaluation says is what the model does.
-/
namespace Go.GB

theorem RelV.repT {Λ : L} {v : Value} {x : T} (h : RelV Λ v (.t x)) : RepT Λ.lab Λ.w v x := by cases h; assumption

theorem RelV.cell1 {Λ : L} {v : Value} {x : V} {t : T} (h : RelV Λ v x) (hx : x.cell1 = some t) : RepT Λ.lab Λ.w v t := by
  cases h <;> simp [V.cell1] at hx
  · subst hx; assumption
  · subst hx; exact .nil
  · subst hx; assumption
  · subst hx; assumption

theorem RepT.bool_inv {l : Nat → Lab} {w : World} {v : Value} {b : Bool} (h : RepT l w v (.bool b)) : v = .bool b := by cases h; rfl
theorem RepT.int_inv {l : Nat → Lab} {w : World} {v : Value} {k : IntKind} {n : Int} (h : RepT l w v (.int k n)) : v = .int k n := by cases h; rfl
theorem RepT.str_inv {l : Nat → Lab} {w : World} {v : Value} {s : List UInt8} (h : RepT l w v (.str s)) : v = .string ⟨⟨s⟩⟩ := by cases h; rfl

theorem RelV.of_litV {Λ : L} {v : Value} {x : V} (h : litV v = some x) : RelV Λ v x := by
  unfold litV at h
  split at h <;> simp at h <;> subst h
  · exact .t (.bool _)
  · exact .t (.int _ _)
  · exact .t (.str _)
  · exact .t .nilp
  · exact .t .nilm
  · exact .t .nilf
  · exact .nils

theorem RelV.of_zeroOk {Λ : L} {v : Value} {x : V} (h : zeroOk v x = true) : RelV Λ v x := by
  unfold zeroOk at h
  split at h <;> simp at h
  · subst h; exact .t (.bool _)
  · obtain ⟨rfl, rfl⟩ := h; exact .t (.int _ _)
  · subst h; exact .t (.str _)
  · exact .t .nilp
  · exact .t .nilm
  · exact .t .nilf
  · exact .nils

theorem zerosOk_at {Λ : L} : ∀ {vs : List Value} {xs : List V}, zerosOk vs xs = true → vs.length = xs.length ∧ ∀ (j : Nat) (v : Value) (x : V), vs[j]? = some v → xs[j]? = some x → RelV Λ v x
  | [], [], _ => ⟨rfl, by simp⟩
  | v :: vs, x :: xs, h => by
    simp only [zerosOk, Bool.and_eq_true] at h
    obtain ⟨h1, h2⟩ := zerosOk_at (Λ := Λ) h.2
    refine ⟨by simp [h1], fun j u y hu hy => ?_⟩
    cases j with
    | zero => simp at hu hy; subst hu; subst hy; exact .of_zeroOk h.1
    | succ j => exact h2 j u y (by simpa using hu) (by simpa using hy)
  | [], _ :: _, h => by simp [zerosOk] at h
  | _ :: _, [], h => by simp [zerosOk] at h

/-- an operand in a related frame -/
theorem Rel.opd {C : Ctx} {Λ : L} {st : St} {a : Act} (h : Rel C Λ st a) {y : Operand} {x : Ar} (hx : opA y = some x) : RelV Λ (a.eval y) (x.v st) := by
  unfold opA at hx
  split at hx
  · simp at hx; subst hx; exact h.env _
  · simp only [Option.map_eq_some_iff] at hx
    obtain ⟨v, hv, rfl⟩ := hx
    exact .of_litV hv
  · simp at hx; subst hx; exact .t (.fn _)
  · simp at hx

theorem RelV.ug {Λ : L} {v : Value} {x : V} (h : RelV Λ v x) : RelV Λ v x.ug := by
  cases h with
  | gd h _ =>
    rename_i c _ _
    cases c with
    | true => exact h rfl
    | false => exact .top
  | t h => exact .t h
  | nils => exact .nils
  | own a b c d e => exact .own a b c d e
  | slc a b c => exact .slc a b c
  | agg a b => exact .agg a b
  | tup a b => exact .tup a b
  | ptr a b => exact .ptr a b
  | mp a b => exact .mp a b
  | fn a b => exact .fn a b
  | top => exact .top
  | ub a b => exact .ub a b
  | ui => exact .ui
  | fpt a b => exact .fpt a b
  | gpt a b c d => exact .gpt a b c d
  | gsl a b c d => exact .gsl a b c d
  | fow a b c d e => exact .fow a b c d e
theorem Rel.opu {C : Ctx} {Λ : L} {st : St} {a : Act} (h : Rel C Λ st a) {y : Operand} {x : Ar} (hx : opA y = some x) : RelV Λ (a.eval y) (x.u st) := (h.opd hx).ug

theorem un_sound {Λ : L} {gc : Bool} {u : Value} {x v : V} {p : List Bool} (hx : RelV Λ u x) (hr : x.un gc = (v, p)) (hp : ∀ q ∈ p, q) (hg : gc = true) : RelV Λ u v := by
  unfold V.un at hr
  split at hr
  · simp only [Prod.mk.injEq] at hr
    obtain ⟨rfl, rfl⟩ := hr
    have := hp _ (List.mem_singleton.2 rfl)
    simp [hg] at this
    cases hx with
    | gd h _ => exact h this
  · simp only [Prod.mk.injEq] at hr
    obtain ⟨rfl, rfl⟩ := hr
    exact hx

theorem rd_sound {C : Ctx} {Λ : L} {st : St} {a : Act} (h : Rel C Λ st a) {y : Operand} {x : Ar} (hx : opA y = some x) {gc : Bool} {v : V} {p : List Bool}
    (hr : rd gc st x = (v, p)) (hp : ∀ q ∈ p, q) (hg : gc = true) : RelV Λ (a.eval y) v := un_sound (h.opd hx) hr hp hg

/-- What is to be shown of an operation that only computes. -/
def ESound (P : Program) (o : Oper) (gc : Bool) (st : St) (x : V) : Prop :=
  ∀ (C : Ctx) (Λ : L) (a : Act), C.P = P → gc = true → Rel C Λ st a → ∃ v, (execOp a.eval o).run P Λ.w = .ok (.value v) Λ.w ∧ RelV Λ v x

section
variable {P : Program} {o : Oper} {gc : Bool} {st : St}

theorem e_cst {x : V} {v : Value} (ho : o.op = .move (.const v) ∨ o.op = .assign (.const v)) (hx : ∀ Λ, RelV Λ v x) : ESound P o gc st x := by
  intro C Λ a _ _ _
  refine ⟨v, ?_, hx _⟩
  rcases ho with ho | ho <;> simp [execOp, ho, Act.eval]

theorem e_mv {y : Operand} {x : Ar} {v : V} {p : List Bool} (ho : o.op = .move y ∨ o.op = .assign y) (hy : opA y = some x) (hr : rd gc st x = (v, p)) (hp : ∀ q ∈ p, q) : ESound P o gc st v := by
  intro C Λ a _ hg h
  have hv := rd_sound h hy hr hp hg
  refine ⟨a.eval y, ?_, hv⟩
  rcases ho with ho | ho <;> simp [execOp, ho]

theorem e_pick {c x y : Operand} {c' x' y' : Ar} {cb xa xb : Bool} {p1 p2 p3 : List Bool} (ho : o.op = .pick c x y) (hc : opA c = some c') (hx : opA x = some x') (hy : opA y = some y')
    (h1 : rd gc st c' = (.t (.bool cb), p1)) (h2 : rd (gc && cb) st x' = (.t (.bool xa), p2)) (h3 : rd (gc && !cb) st y' = (.t (.bool xb), p3)) (hp : ∀ q ∈ p1 ++ (p2 ++ p3), q) :
    ESound P o gc st (.t (.bool (bif cb then xa else xb))) := by
  intro C Λ a _ hg h
  have hc1 := rd_sound h hc h1 (fun q hq => hp q (by simp [hq])) hg
  have ec := hc1.repT.bool_inv
  cases cb with
  | true =>
    have hx1 := rd_sound h hx h2 (fun q hq => hp q (by simp [hq])) (by simp [hg])
    refine ⟨a.eval x, by simp [execOp, ho, ec, asBool], ?_⟩
    exact .t hx1.repT
  | false =>
    have hy1 := rd_sound h hy h3 (fun q hq => hp q (by simp [hq])) (by simp [hg])
    refine ⟨a.eval y, by simp [execOp, ho, ec, asBool], ?_⟩
    exact .t hy1.repT

theorem e_not {t : TypeId} {x : Operand} {x' : Ar} {b : Bool} {p : List Bool} (ho : o.op = .unOp .not t x) (hx : opA x = some x') (h1 : rd gc st x' = (.t (.bool b), p)) (hp : ∀ q ∈ p, q) :
    ESound P o gc st (.t (.bool (!b))) := by
  intro C Λ a _ hg h
  have hx1 := rd_sound h hx h1 hp hg
  have e := hx1.repT.bool_inv
  exact ⟨.bool (!b), by simp [execOp, ho, e, Op.unary], .t (.bool _)⟩

theorem e_neg {t : TypeId} {x : Operand} {x' : Ar} {k : IntKind} {n : Int} {p : List Bool} (ho : o.op = .unOp .neg t x) (hx : opA x = some x') (h1 : rd gc st x' = (.t (.int k n), p)) (hp : ∀ q ∈ p, q) :
    ESound P o gc st (.t (.int k (k.wrap (0 - n)))) := by
  intro C Λ a _ hg h
  have hx1 := rd_sound h hx h1 hp hg
  have e := hx1.repT.int_inv
  exact ⟨.int k (k.wrap (0 - n)), by simp [execOp, ho, e, Op.unary, Op.intArith], .t (.int _ _)⟩

theorem toList_mk (s : List UInt8) : ByteArray.toList ⟨⟨s⟩⟩ = s := ByteArray.toList_mk s

theorem append_mk (a b : List UInt8) : (⟨⟨a⟩⟩ ++ ⟨⟨b⟩⟩ : ByteArray) = ⟨⟨a ++ b⟩⟩ := by
  apply ByteArray.ext
  simp [ByteArray.data_append]

theorem RelV.ui_inv {Λ : L} {v : Value} {k : IntKind} (h : RelV Λ v (.ui k)) : ∃ n, v = .int k n := by
  cases h; exact ⟨_, rfl⟩
theorem e_binU {op : BinOp} {t ty : TypeId} {x y : Operand} {x' y' : Ar} {k : IntKind} {n : Int} {v : V} {p1 p2 : List Bool} (ho : o.op = .binOp op t x y ty) (hx : opA x = some x') (hy : opA y = some y')
    (h1 : rd gc st x' = (.ui k, p1)) (h2 : rd gc st y' = (.t (.int k n), p2)) (hb : (op = .add ∧ v = .ui k) ∨ (op = .gtr ∧ v = .ub True True)) (hp : ∀ q ∈ p1 ++ p2, q) : ESound P o gc st v := by
  intro C Λ ac _ hg h
  have hx1 := rd_sound h hx h1 (fun q hq => hp q (by simp [hq])) hg
  have hy1 := rd_sound h hy h2 (fun q hq => hp q (by simp [hq])) hg
  obtain ⟨m, e1⟩ := hx1.ui_inv
  have e2 := hy1.repT.int_inv
  rcases hb with ⟨rfl, rfl⟩ | ⟨rfl, rfl⟩
  · exact ⟨.int k (k.wrap (m + n)), by simp [execOp, ho, e1, e2, eqGuard, binOp, Op.intArith], .ui⟩
  · exact ⟨.bool (decide (m > n)), by simp [execOp, ho, e1, e2, eqGuard, binOp, Op.intCmp], .ub (fun _ => trivial) (fun _ => trivial)⟩

theorem e_bin {op : BinOp} {t ty : TypeId} {x y : Operand} {x' y' : Ar} {a b r : T} {p1 p2 p3 : List Bool} (ho : o.op = .binOp op t x y ty) (hx : opA x = some x') (hy : opA y = some y')
    (h1 : rd gc st x' = (.t a, p1)) (h2 : rd gc st y' = (.t b, p2)) (hb : binT op a b = some (r, p3)) (hp : ∀ q ∈ p1 ++ (p2 ++ p3), q) : ESound P o gc st (.t r) := by
  intro C Λ ac _ hg h
  have hx1 := rd_sound h hx h1 (fun q hq => hp q (by simp [hq])) hg
  have hy1 := rd_sound h hy h2 (fun q hq => hp q (by simp [hq])) hg
  have hp3 : ∀ q ∈ p3, q := fun q hq => hp q (by simp [hq])
  cases a with
  | int k m =>
    cases b with
    | int k' n =>
      have e1 := hx1.repT.int_inv
      have e2 := hy1.repT.int_inv
      simp only [binT] at hb
      split at hb
      · rename_i hk
        subst hk
        cases op <;> simp at hb <;> obtain ⟨rfl, rfl⟩ := hb
        case quo =>
          have hn : n ≠ 0 := of_decide_eq_true (hp3 _ (by simp))
          exact ⟨_, by simp [execOp, ho, e1, e2, eqGuard, binOp, Op.intDiv, hn], .t (.int _ _)⟩
        case rem =>
          have hn : n ≠ 0 := of_decide_eq_true (hp3 _ (by simp))
          exact ⟨_, by simp [execOp, ho, e1, e2, eqGuard, binOp, Op.intDiv, hn], .t (.int _ _)⟩
        case add => exact ⟨_, by simp [execOp, ho, e1, e2, eqGuard, binOp, Op.intArith], .t (.int _ _)⟩
        case sub => exact ⟨_, by simp [execOp, ho, e1, e2, eqGuard, binOp, Op.intArith], .t (.int _ _)⟩
        case mul => exact ⟨_, by simp [execOp, ho, e1, e2, eqGuard, binOp, Op.intArith], .t (.int _ _)⟩
        case and => exact ⟨_, by simp [execOp, ho, e1, e2, eqGuard, binOp, Op.intBits, andI], .t (.int _ _)⟩
        case or => exact ⟨_, by simp [execOp, ho, e1, e2, eqGuard, binOp, Op.intBits, orI], .t (.int _ _)⟩
        all_goals exact ⟨_, by simp [execOp, ho, e1, e2, eqGuard, binOp, Op.intCmp], .t (.bool _)⟩
      · simp at hb
    | _ => simp [binT] at hb
  | str m =>
    cases b with
    | str n =>
      have e1 := hx1.repT.str_inv
      have e2 := hy1.repT.str_inv
      simp only [binT] at hb
      cases op <;> simp at hb <;> obtain ⟨rfl, rfl⟩ := hb
      · have hn : m.length + n.length ≤ 9223372036854775807 := of_decide_eq_true (hp3 _ (by simp))
        have hn' : ¬ (IntKind.i64.max < ((m.length + n.length : Nat) : Int)) := by
          show ¬ ((9223372036854775807 : Int) < _)
          omega
        have hs : ((⟨⟨m⟩⟩ : ByteArray).size + (⟨⟨n⟩⟩ : ByteArray).size) = m.length + n.length := rfl
        refine ⟨.string ⟨⟨m ++ n⟩⟩, ?_, .t (.str _)⟩
        simp only [execOp, ho, e1, e2, eqGuard, binOp, Op.stringOp, hs, append_mk]
        simp
        omega
      all_goals exact ⟨_, by simp [execOp, ho, e1, e2, eqGuard, binOp, Op.stringOp], .t (.bool _)⟩
    | _ => simp [binT] at hb
  | _ => simp [binT] at hb

end
end Go.GB


/-
  GaG: the operations that only compute, continued: memory read, indices, slices, structs.
-/
namespace Go.GB

theorem add_mk (b o n : Nat) : (⟨b, o, none⟩ : Addr).add n = ⟨b, o + n, none⟩ := by
  unfold Addr.add; split
  · rename_i h; subst h; rfl
  · rfl

section
variable {P : Program} {o : Oper} {gc : Bool} {st : St}

theorem run_equal_bool {t : TypeId} (hu : P.underlying t = some .bool) (a b : Bool) (w : World) : (Op.equal t (.bool a) (.bool b)).run P w = .ok (a == b) w := by
  have : ∀ d, (Op.equalIn (d + 1) t (.bool a) (.bool b)).run P w = .ok (a == b) w := fun d => by simp [Op.equalIn, run_underlying hu]
  exact this 9999

theorem e_eqb {neg : Bool} {t ty : TypeId} {x y : Operand} {x' y' : Ar} {a b : Bool} {p1 p2 : List Bool} (hu : P.underlying t = some .bool)
    (ho : o.op = .binOp (if neg then .neq else .eql) t x y ty) (hx : opA x = some x') (hy : opA y = some y')
    (h1 : rd gc st x' = (.t (.bool a), p1)) (h2 : rd gc st y' = (.t (.bool b), p2)) (hp : ∀ q ∈ p1 ++ p2, q) : ESound P o gc st (.t (.bool (if neg then !(a == b) else a == b))) := by
  intro C Λ ac _ hg h
  have hx1 := rd_sound h hx h1 (fun q hq => hp q (by simp [hq])) hg
  have hy1 := rd_sound h hy h2 (fun q hq => hp q (by simp [hq])) hg
  have e1 := hx1.repT.bool_inv
  have e2 := hy1.repT.bool_inv
  refine ⟨_, ?_, .t (.bool _)⟩
  cases neg <;> simp [execOp, ho, e1, e2, eqGuard, binOp, run_equal_bool hu]

theorem e_conv {src dst : TypeId} {x : Operand} {x' : Ar} {k k1 k2 : IntKind} {n : Int} {p : List Bool} (hs : P.underlying src = some (.int k1)) (hd : P.underlying dst = some (.int k))
    (ho : o.op = .convert src dst x) (hx : opA x = some x') (h1 : rd gc st x' = (.t (.int k2 n), p)) (hp : ∀ q ∈ p, q) : ESound P o gc st (.t (.int k (k.wrap n))) := by
  intro C Λ ac _ hg h
  have hx1 := rd_sound h hx h1 hp hg
  have e1 := hx1.repT.int_inv
  exact ⟨_, by simp [execOp, ho, e1, convert, run_underlying hs, run_underlying hd, Conv.intToInt], .t (.int _ _)⟩

theorem e_convs {src dst : TypeId} {x : Operand} {x' : Ar} {v : V} {p : List Bool} (hs : P.underlying src = some .string) (hd : P.underlying dst = some .string)
    (ho : o.op = .convert src dst x) (hx : opA x = some x') (h1 : rd gc st x' = (v, p)) (hp : ∀ q ∈ p, q) (hv : ∃ s, v = .t (.str s)) : ESound P o gc st v := by
  intro C Λ ac _ hg h
  have hx1 := rd_sound h hx h1 hp hg
  obtain ⟨s, rfl⟩ := hv
  have e1 := hx1.repT.str_inv
  exact ⟨.string ⟨⟨s⟩⟩, by simp [execOp, ho, e1, convert, run_underlying hs, run_underlying hd], .t (.str _)⟩

theorem e_nilck {x : Operand} {x' : Ar} {v : V} {p : List Bool} (ho : o.op = .nilCheck x) (hx : opA x = some x') (h1 : rd gc st x' = (v, p)) (hp : ∀ q ∈ p, q)
    (hv : (∃ k n, v = .ptr k n) ∨ (∃ c, v = .t (.ptr c)) ∨ (∃ f, v = .t (.fn f)) ∨ ∃ f c, v = .fn f c) : ESound P o gc st v := by
  intro C Λ ac _ hg h
  have hx1 := rd_sound h hx h1 hp hg
  rcases hv with ⟨k, n, rfl⟩ | ⟨c, rfl⟩ | ⟨f, rfl⟩ | ⟨f, c, rfl⟩
  · generalize hv : ac.eval x = v at hx1
    cases hx1 with
    | ptr hk h' => exact ⟨_, by simp [execOp, ho, hv], .ptr hk h'⟩
  · generalize hv : ac.eval x = v at hx1
    cases hx1 with
    | t h' => cases h' with | ptr _ b o vf a1 a2 a3 => exact ⟨_, by simp [execOp, ho, hv], .t (.ptr _ b o vf a1 a2 a3)⟩
  · generalize hv : ac.eval x = v at hx1
    cases hx1 with
    | t h' => cases h'; exact ⟨_, by simp [execOp, ho, hv], .t (.fn _)⟩
  · generalize hv : ac.eval x = v at hx1
    cases hx1 with
    | fn hs h' => exact ⟨_, by simp [execOp, ho, hv], .fn hs h'⟩

theorem e_nilck_f {x : Operand} {x' : Ar} {k i n : Nat} {p : List Bool} (ho : o.op = .nilCheck x) (hx : opA x = some x') (h1 : rd gc st x' = (.fpt k i n, p)) (hp : ∀ q ∈ p, q) : ESound P o gc st (.fpt k i n) := by
  intro C Λ ac _ hg h
  have hx1 := rd_sound h hx h1 hp hg
  generalize hv : ac.eval x = v at hx1
  cases hx1 with
  | fpt hk h' => exact ⟨_, by simp [execOp, ho, hv], .fpt hk h'⟩

theorem RepT.ptr_drop {l : Nat → Lab} {w : World} {b o n : Nat} {cs : List T} (h : RepT l w (.pointer (some ⟨b, o, none⟩)) (.ptr cs)) : RepT l w (.pointer (some ⟨b, o + n, none⟩)) (.ptr (cs.drop n)) := by
  cases h with
  | ptr _ _ _ vf a1 a2 a3 =>
    refine .ptr _ b (o + n) (fun j => vf (n + j)) (fun j x hj => ?_) (fun j x hj => ?_) (fun j x hj => ?_) <;> rw [List.getElem?_drop] at hj
    · rw [Nat.add_assoc]; exact a1 _ x hj
    · rw [Nat.add_assoc]; exact a2 _ x hj
    · exact a3 _ x hj

theorem RepT.ptr_at {l : Nat → Lab} {w : World} {b o : Nat} {cs : List T} (h : RepT l w (.pointer (some ⟨b, o, none⟩)) (.ptr cs)) (j : Nat) (x : T) (hj : cs[j]? = some x) : ∃ v, w.cell? ⟨b, o + j, none⟩ = some v ∧ RepT l w v x := by
  cases h with
  | ptr _ _ _ vf a1 a2 a3 => exact ⟨vf j, a2 j x hj, a3 j x hj⟩

theorem RepT.ptr_inv {l : Nat → Lab} {w : World} {v : Value} {cs : List T} (h : RepT l w v (.ptr cs)) : ∃ b o, v = .pointer (some ⟨b, o, none⟩) := by
  cases h; exact ⟨_, _, rfl⟩

theorem run_fieldAt {s : TypeId} {fs : Array Field} {f : Nat} {fd : Field} {n : Nat} (hu : P.underlying s = some (.struct fs)) (hf : fs[f]? = some fd) (hn : szOf P fd.type = some n) (h0 : n ≠ 0)
    (b off : Nat) (w : World) : (Instr.fieldAt s (.pointer (some ⟨b, off, none⟩)) f).run P w = .ok (.pointer (some ⟨b, off + fd.offset, none⟩)) w := by
  unfold szOf at hn
  cases hi : P.info? fd.type with
  | none => rw [hi] at hn; simp at hn
  | some i =>
    rw [hi] at hn; simp at hn; subst hn
    simp [Instr.fieldAt, run_underlying hu, hf, Instr.sureAddr, fieldPlace, sizeOf, typeInfo, hi, h0, add_mk]

theorem e_fa {s : TypeId} {x : Operand} {f : Nat} {fs : Array Field} {fd : Field} {n : Nat} {x' : Ar} {v r : V} {p : List Bool} (hu : P.underlying s = some (.struct fs)) (hf : fs[f]? = some fd)
    (hn : szOf P fd.type = some n) (h0 : n ≠ 0) (ho : o.op = .fieldAddr s x f) (hx : opA x = some x') (h1 : rd gc st x' = (v, p)) (hp : ∀ q ∈ p, q)
    (hv : (∃ k m, v = .ptr k m ∧ r = .ptr k (m + fd.offset)) ∨ (∃ c, v = .t (.ptr c) ∧ r = .t (.ptr (c.drop fd.offset)))) : ESound P o gc st r := by
  intro C Λ ac _ hg h
  have hx1 := rd_sound h hx h1 hp hg
  rcases hv with ⟨k, m, rfl, rfl⟩ | ⟨c, rfl, rfl⟩
  · generalize hv : ac.eval x = v at hx1
    cases hx1 with
    | ptr hk h' => exact ⟨_, by simp [execOp, ho, hv, run_fieldAt hu hf hn h0], .ptr hk h'⟩
  · have hr := hx1.repT
    obtain ⟨b, o', hv⟩ := hr.ptr_inv
    rw [hv] at hr
    exact ⟨_, by simp [execOp, ho, hv, run_fieldAt hu hf hn h0], .t hr.ptr_drop⟩

theorem e_fa_f {s : TypeId} {x : Operand} {f : Nat} {fs : Array Field} {fd : Field} {n : Nat} {x' : Ar} {k i m : Nat} {p : List Bool} (hu : P.underlying s = some (.struct fs)) (hf : fs[f]? = some fd)
    (hn : szOf P fd.type = some n) (h0 : n ≠ 0) (ho : o.op = .fieldAddr s x f) (hx : opA x = some x') (h1 : rd gc st x' = (.fpt k i m, p)) (hp : ∀ q ∈ p, q) : ESound P o gc st (.fpt k i (m + fd.offset)) := by
  intro C Λ ac _ hg h
  have hx1 := rd_sound h hx h1 hp hg
  generalize hv : ac.eval x = v at hx1
  cases hx1 with
  | fpt hk h' => exact ⟨_, by simp [execOp, ho, hv, run_fieldAt hu hf hn h0], .fpt hk h'⟩

/-- loads -/
theorem run_loadAt_one {t : TypeId} {d : TypeDesc} (hu : P.underlying t = some d) (ha : isAggT P t = false) {b off : Nat} {w : World} {v : Value} (hc : w.cell? ⟨b, off, none⟩ = some v) :
    (Instr.loadAt t (.pointer (some ⟨b, off, none⟩))).run P w = .ok v w := by
  have hagg : (isAgg t).run P w = .ok false w := by
    unfold isAgg
    rw [Sem.run_bind, run_underlying hu w]
    unfold isAggT at ha
    rw [hu] at ha
    cases d <;> simp_all
  simp [Instr.loadAt, Instr.sureAddr, loadVar, hagg, hc]

theorem run_loadAt_agg {t : TypeId} {n : Nat} (hn : szOf P t = some n) (ha : isAggT P t = true) {b off : Nat} {w : World} {vs : List Value} (hl : vs.length = n)
    (hc : ∀ (j : Nat) (v : Value), vs[j]? = some v → w.cell? ⟨b, off + j, none⟩ = some v) :
    (Instr.loadAt t (.pointer (some ⟨b, off, none⟩))).run P w = .ok (.agg vs.toArray) w := by
  have hagg : (isAgg t).run P w = .ok true w := by
    unfold isAgg
    unfold isAggT at ha
    cases hu : P.underlying t with
    | none => rw [hu] at ha; simp at ha
    | some d =>
      rw [hu] at ha
      rw [Sem.run_bind, run_underlying hu w]
      cases d <;> simp_all
  unfold szOf at hn
  cases hi : P.info? t with
  | none => rw [hi] at hn; simp at hn
  | some i =>
    rw [hi] at hn; simp at hn; subst hn
    have hlc : (loadCells ⟨b, off, none⟩ i.size).run P w = .ok vs.toArray w := by
      rw [← hl]
      exact run_loadCells_list (P := P) w ⟨b, off, none⟩ vs (fun j v hv => by rw [add_mk]; exact hc j v hv)
    simp [Instr.loadAt, Instr.sureAddr, loadVar, hagg, sizeOf, typeInfo, hi, hlc]

/-- a list of values chosen cell by cell -/
theorem choose_vals {Q : Nat → Value → Prop} : ∀ (n : Nat), (∀ j, j < n → ∃ v, Q j v) → ∃ vs : List Value, vs.length = n ∧ ∀ (j : Nat) (v : Value), vs[j]? = some v → Q j v
  | 0, _ => ⟨[], rfl, by simp⟩
  | n + 1, h => by
    obtain ⟨vs, hl, hv⟩ := choose_vals n (fun j hj => h j (by omega))
    obtain ⟨v, hq⟩ := h n (by omega)
    refine ⟨vs ++ [v], by simp [hl], fun j u hu => ?_⟩
    by_cases hj : j < vs.length
    · rw [List.getElem?_append_left hj] at hu; exact hv j u hu
    · rw [List.getElem?_append_right (by omega)] at hu
      by_cases e : j = n
      · subst e; rw [hl] at hu; simp at hu; subst hu; exact hq
      · rw [List.getElem?_eq_none (by simp; omega)] at hu; cases hu

theorem e_ld_vp {t : TypeId} {d : TypeDesc} {x : Operand} {x' : Ar} {cs : List T} {c : T} {p : List Bool} (hu : P.underlying t = some d) (ha : isAggT P t = false)
    (ho : o.op = .load t x) (hx : opA x = some x') (h1 : rd gc st x' = (.t (.ptr cs), p)) (hp : ∀ q ∈ p, q) (hc : cs[0]? = some c) : ESound P o gc st (.t c) := by
  intro C Λ ac _ hg h
  have hr := (rd_sound h hx h1 hp hg).repT
  obtain ⟨b, o', hv⟩ := hr.ptr_inv
  rw [hv] at hr
  obtain ⟨u, hu1, hu2⟩ := hr.ptr_at 0 c hc
  exact ⟨u, by simp [execOp, ho, hv, run_loadAt_one hu ha (by simpa using hu1)], .t hu2⟩

theorem e_ld_vpa {t : TypeId} {n : Nat} {x : Operand} {x' : Ar} {cs : List T} {p : List Bool} (hn : szOf P t = some n) (ha : isAggT P t = true)
    (ho : o.op = .load t x) (hx : opA x = some x') (h1 : rd gc st x' = (.t (.ptr cs), p)) (hp : ∀ q ∈ p, q) (hl : n ≤ cs.length) : ESound P o gc st (.agg ((cs.take n).map V.t)) := by
  intro C Λ ac _ hg h
  have hr := (rd_sound h hx h1 hp hg).repT
  obtain ⟨b, off, hv⟩ := hr.ptr_inv
  rw [hv] at hr
  obtain ⟨vs, hvl, hvs⟩ := choose_vals (Q := fun j v => Λ.w.cell? ⟨b, off + j, none⟩ = some v ∧ ∀ c, cs[j]? = some c → RepT Λ.lab Λ.w v c) n (fun j hj => by
    obtain ⟨u, hu1, hu2⟩ := hr.ptr_at j cs[j] (by simp [Nat.lt_of_lt_of_le hj hl])
    exact ⟨u, hu1, fun c hc => by simp [Nat.lt_of_lt_of_le hj hl] at hc; subst hc; exact hu2⟩)
  refine ⟨.agg vs.toArray, by simp [execOp, ho, hv, run_loadAt_agg hn ha hvl (fun j v hj => (hvs j v hj).1)], .agg (by simp [hvl]; omega) fun j u c h2 h3 => ?_⟩
  rw [List.getElem?_map, Option.map_eq_some_iff] at h3
  obtain ⟨c', h4, rfl⟩ := h3
  rw [List.getElem?_take] at h4
  split at h4
  · exact .t ((hvs j u (by simpa using h2)).2 c' h4)
  · cases h4

/-- the cells of an object, as the world has them -/
theorem RelS.objCells {Λ : L} {s : S} (h : RelS Λ s) {k : Nat} {cs : List V} (hk : aget s.sto k = some (.cells cs)) {b : Nat} (hb : Λ.lab b = .obj k) :
    ∃ (arr : Array Value) (e : TypeId), Λ.w.heap[b]? = some (.cells arr e (0, 0)) ∧ arr.size = cs.length ∧ ∀ (j : Nat) (v : Value) (c : V), arr[j]? = some v → cs[j]? = some c → RelV Λ v c := by
  obtain ⟨b', arr, e, h1, h2, h3, h4⟩ := (h.sto k _ hk).2
  obtain rfl := h.inj b b' k hb h1
  exact ⟨arr, e, h2, h3, h4⟩

theorem e_ld_ptr {t : TypeId} {d : TypeDesc} {x : Operand} {x' : Ar} {k off : Nat} {cs : List V} {c : V} {p : List Bool} (hu : P.underlying t = some d) (ha : isAggT P t = false)
    (ho : o.op = .load t x) (hx : opA x = some x') (h1 : rd gc st x' = (.ptr k off, p)) (hp : ∀ q ∈ p, q) (hk : aget st.s.sto k = some (.cells cs)) (hc : cs[off]? = some c) : ESound P o gc st c := by
  intro C Λ ac _ hg h
  have hx1 := rd_sound h hx h1 hp hg
  generalize hv : ac.eval x = v at hx1
  cases hx1 with
  | @ptr b _ _ _ h' =>
    obtain ⟨arr, e, h2, h3, h4⟩ := h.s.objCells hk h'
    have hlt : off < cs.length := (List.getElem?_eq_some_iff.1 hc).1
    have hcell : Λ.w.cell? ⟨b, off, none⟩ = some (arr[off]'(by omega)) := by rw [cell_of_row Λ.w b off arr e _ h2]; simp [h3, hlt]
    exact ⟨arr[off]'(by omega), by simp [execOp, ho, hv, run_loadAt_one hu ha hcell], h4 off _ c (by simp) hc⟩

theorem RelV.subL {Λ : L} {vs : List Value} {cs : List V} (h : ∀ (j : Nat) (v : Value) (c : V), vs[j]? = some v → cs[j]? = some c → RelV Λ v c) (hl : vs.length = cs.length) (off n : Nat) :
    RelV Λ (.agg ((vs.drop off).take n).toArray) (.agg ((cs.drop off).take n)) := by
  refine .agg (by simp [hl]) fun j u c h5 h6 => ?_
  have h5' : ((vs.drop off).take n)[j]? = some u := by simpa using h5
  rw [List.getElem?_take] at h5' h6
  split at h6
  · rename_i hj
    rw [if_pos hj] at h5'
    rw [List.getElem?_drop] at h5' h6
    exact h _ u c h5' h6
  · cases h6

theorem e_ld_ptra {t : TypeId} {n : Nat} {x : Operand} {x' : Ar} {k off : Nat} {cs : List V} {p : List Bool} (hn : szOf P t = some n) (ha : isAggT P t = true)
    (ho : o.op = .load t x) (hx : opA x = some x') (h1 : rd gc st x' = (.ptr k off, p)) (hp : ∀ q ∈ p, q) (hk : aget st.s.sto k = some (.cells cs)) (hl : off + n ≤ cs.length) :
    ESound P o gc st (.agg ((cs.drop off).take n)) := by
  intro C Λ ac _ hg h
  have hx1 := rd_sound h hx h1 hp hg
  generalize hv : ac.eval x = v at hx1
  cases hx1 with
  | @ptr b _ _ _ h' =>
    obtain ⟨arr, e, h2, h3, h4⟩ := h.s.objCells hk h'
    have hvl : ((arr.toList.drop off).take n).length = n := by simp; omega
    have hcell : ∀ (j : Nat) (v : Value), ((arr.toList.drop off).take n)[j]? = some v → Λ.w.cell? ⟨b, off + j, none⟩ = some v := by
      intro j v hj
      rw [List.getElem?_take] at hj
      split at hj
      · rw [List.getElem?_drop] at hj; rw [cell_of_row Λ.w b _ arr e _ h2]; simpa using hj
      · cases hj
    exact ⟨.agg ((arr.toList.drop off).take n).toArray, by simp [execOp, ho, hv, run_loadAt_agg hn ha hvl hcell], RelV.subL (fun j v c e1 e2 => h4 j v c (by simpa using e1) e2) (by simpa using h3) off n⟩

/-- the cells of an object of a family, as the world has them -/
theorem RelS.fCells {Λ : L} {s : S} (h : RelS Λ s) {k i : Nat} {os : List (List V)} {cs : List V} (hk : aget s.sto k = some (.fobs os)) (hi : os[i]? = some cs) {b : Nat} (hb : Λ.lab b = .fob k i) :
    ∃ (arr : Array Value) (e : TypeId), Λ.w.heap[b]? = some (.cells arr e (0, 0)) ∧ arr.size = cs.length ∧ ∀ (j : Nat) (v : Value) (c : V), arr[j]? = some v → cs[j]? = some c → RelV Λ v c := by
  obtain ⟨_, h0⟩ := (h.sto k _ hk).2
  obtain ⟨b', arr, e, h1, h2, h3, h4⟩ := h0 i cs hi
  obtain rfl := h.injF b b' k i hb h1
  exact ⟨arr, e, h2, h3, h4⟩
theorem GCur.uniq {Λ : L} {s : S} (h : RelS Λ s) {k b b' : Nat} (h1 : GCur Λ.lab k b) (h2 : GCur Λ.lab k b') : b = b' := by
  obtain ⟨i, a1, a2⟩ := h1
  obtain ⟨j, b1, b2⟩ := h2
  have e1 := a2 b' j b1
  have e2 := b2 b i a1
  have : i = j := by omega
  subst this
  exact h.injF b b' k i a1 b1
/-- the cells of a growing array -/
theorem RelS.gCells {Λ : L} {s : S} (h : RelS Λ s) {k w : Nat} {cs : List V} (hk : aget s.sto k = some (.gro w cs)) {b : Nat} (hb : GCur Λ.lab k b) :
    ∃ (arr : Array Value) (e : TypeId), Λ.w.heap[b]? = some (.cells arr e (0, 0)) ∧ cs.length ≤ arr.size ∧ ∀ (j : Nat) (v : Value) (c : V), arr[j]? = some v → cs[j]? = some c → RelV Λ v c := by
  obtain ⟨_, ⟨_, h2⟩ | ⟨b', arr, e, h1, h2, h3, h4⟩⟩ := (h.sto k _ hk).2
  · obtain ⟨i, a1, _⟩ := hb
    exact absurd a1 (h2 b i)
  · obtain rfl := GCur.uniq h hb h1
    exact ⟨arr, e, h2, h3, h4⟩

theorem e_nilck_g {x : Operand} {x' : Ar} {k ver n w : Nat} {cs : List V} {p : List Bool} (ho : o.op = .nilCheck x) (hx : opA x = some x') (h1 : rd gc st x' = (.gpt k ver n, p)) (hp : ∀ q ∈ p, q) (hk : aget st.s.sto k = some (.gro w cs)) (hw : ver = w) : ESound P o gc st (.gpt k ver n) := by
  intro C Λ ac _ hg h
  have hx1 := rd_sound h hx h1 hp hg
  generalize hv : ac.eval x = v at hx1
  cases hx1 with
  | gpt g0 g1 g2 g3 =>
    obtain ⟨b, rfl, g4⟩ := g3 (hw.trans (h.s.sto k _ hk).2.1.symm)
    exact ⟨_, by simp [execOp, ho, hv], .gpt ⟨_, rfl⟩ g1 g2 (fun _ => ⟨b, rfl, g4⟩)⟩

theorem e_fa_g {s : TypeId} {x : Operand} {f : Nat} {fs : Array Field} {fd : Field} {n : Nat} {x' : Ar} {k ver m w : Nat} {cs : List V} {p : List Bool} (hu : P.underlying s = some (.struct fs)) (hf : fs[f]? = some fd)
    (hn : szOf P fd.type = some n) (h0 : n ≠ 0) (ho : o.op = .fieldAddr s x f) (hx : opA x = some x') (h1 : rd gc st x' = (.gpt k ver m, p)) (hp : ∀ q ∈ p, q) (hk : aget st.s.sto k = some (.gro w cs)) (hw : ver = w) : ESound P o gc st (.gpt k ver (m + fd.offset)) := by
  intro C Λ ac _ hg h
  have hx1 := rd_sound h hx h1 hp hg
  generalize hv : ac.eval x = v at hx1
  cases hx1 with
  | gpt g0 g1 g2 g3 =>
    obtain ⟨b, rfl, g4⟩ := g3 (hw.trans (h.s.sto k _ hk).2.1.symm)
    exact ⟨_, by simp [execOp, ho, hv, run_fieldAt hu hf hn h0], .gpt ⟨_, rfl⟩ g1 g2 (fun _ => ⟨b, rfl, g4⟩)⟩

/-- reading cells -/
theorem ld_one {t : TypeId} {d : TypeDesc} {b off : Nat} {Λ : L} {cs : List V} {c : V} {arr : Array Value} {e : TypeId} (hu : P.underlying t = some d) (ha : isAggT P t = false) (h2 : Λ.w.heap[b]? = some (.cells arr e (0, 0))) (h3 : cs.length ≤ arr.size)
    (h4 : ∀ (j : Nat) (v : Value) (c : V), arr[j]? = some v → cs[j]? = some c → RelV Λ v c) (hc : cs[off]? = some c) : ∃ v, (Instr.loadAt t (.pointer (some ⟨b, off, none⟩))).run P Λ.w = .ok v Λ.w ∧ RelV Λ v c := by
  have hlt : off < cs.length := (List.getElem?_eq_some_iff.1 hc).1
  have hcell : Λ.w.cell? ⟨b, off, none⟩ = some (arr[off]'(by omega)) := by rw [cell_of_row Λ.w b off arr e _ h2]; first | (simp; done) | (simp; omega)
  exact ⟨arr[off]'(by omega), run_loadAt_one hu ha hcell, h4 off _ c (by simp) hc⟩
theorem ld_agg {t : TypeId} {n b off : Nat} {Λ : L} {cs : List V} {arr : Array Value} {e : TypeId} (hn : szOf P t = some n) (ha : isAggT P t = true) (h2 : Λ.w.heap[b]? = some (.cells arr e (0, 0))) (h3 : cs.length ≤ arr.size)
    (h4 : ∀ (j : Nat) (v : Value) (c : V), arr[j]? = some v → cs[j]? = some c → RelV Λ v c) (hl : off + n ≤ cs.length) : ∃ v, (Instr.loadAt t (.pointer (some ⟨b, off, none⟩))).run P Λ.w = .ok v Λ.w ∧ RelV Λ v (.agg ((cs.drop off).take n)) := by
  have hvl : ((arr.toList.drop off).take n).length = n := by simp; omega
  have hcell : ∀ (j : Nat) (v : Value), ((arr.toList.drop off).take n)[j]? = some v → Λ.w.cell? ⟨b, off + j, none⟩ = some v := by
    intro j v hj
    rw [List.getElem?_take] at hj
    split at hj
    · rw [List.getElem?_drop] at hj; rw [cell_of_row Λ.w b _ arr e _ h2]; simpa using hj
    · cases hj
  refine ⟨.agg ((arr.toList.drop off).take n).toArray, run_loadAt_agg hn ha hvl hcell, .agg (by simp; omega) fun j u c h5 h6 => ?_⟩
  have h5' : ((arr.toList.drop off).take n)[j]? = some u := by simpa using h5
  rw [List.getElem?_take] at h5' h6
  split at h6
  · rename_i hj
    rw [if_pos hj] at h5'
    rw [List.getElem?_drop] at h5' h6
    exact h4 _ u c (by simpa using h5') h6
  · cases h6

theorem e_ld_f {t : TypeId} {d : TypeDesc} {x : Operand} {x' : Ar} {k i off : Nat} {os : List (List V)} {cs : List V} {c : V} {p : List Bool} (hu : P.underlying t = some d) (ha : isAggT P t = false)
    (ho : o.op = .load t x) (hx : opA x = some x') (h1 : rd gc st x' = (.fpt k i off, p)) (hp : ∀ q ∈ p, q) (hk : aget st.s.sto k = some (.fobs os)) (hi : os[i]? = some cs) (hc : cs[off]? = some c) : ESound P o gc st c := by
  intro C Λ ac _ hg h
  have hx1 := rd_sound h hx h1 hp hg
  generalize hv : ac.eval x = v at hx1
  cases hx1 with
  | @fpt b _ _ _ _ h' =>
    obtain ⟨arr, e, h2, h3, h4⟩ := h.s.fCells hk hi h'
    obtain ⟨u, e1, e2⟩ := ld_one (P := P) hu ha h2 (by omega) h4 hc
    exact ⟨u, by simp [execOp, ho, hv, e1], e2⟩
theorem e_ld_fa {t : TypeId} {n : Nat} {x : Operand} {x' : Ar} {k i off : Nat} {os : List (List V)} {cs : List V} {p : List Bool} (hn : szOf P t = some n) (ha : isAggT P t = true)
    (ho : o.op = .load t x) (hx : opA x = some x') (h1 : rd gc st x' = (.fpt k i off, p)) (hp : ∀ q ∈ p, q) (hk : aget st.s.sto k = some (.fobs os)) (hi : os[i]? = some cs) (hl : off + n ≤ cs.length) :
    ESound P o gc st (.agg ((cs.drop off).take n)) := by
  intro C Λ ac _ hg h
  have hx1 := rd_sound h hx h1 hp hg
  generalize hv : ac.eval x = v at hx1
  cases hx1 with
  | @fpt b _ _ _ _ h' =>
    obtain ⟨arr, e, h2, h3, h4⟩ := h.s.fCells hk hi h'
    obtain ⟨u, e1, e2⟩ := ld_agg (P := P) hn ha h2 (by omega) h4 hl
    exact ⟨u, by simp [execOp, ho, hv, e1], e2⟩
theorem e_ld_g {t : TypeId} {d : TypeDesc} {x : Operand} {x' : Ar} {k ver off w : Nat} {cs : List V} {c : V} {p : List Bool} (hu : P.underlying t = some d) (ha : isAggT P t = false)
    (ho : o.op = .load t x) (hx : opA x = some x') (h1 : rd gc st x' = (.gpt k ver off, p)) (hp : ∀ q ∈ p, q) (hk : aget st.s.sto k = some (.gro w cs)) (hw : ver = w) (hc : cs[off]? = some c) : ESound P o gc st c := by
  intro C Λ ac _ hg h
  have hx1 := rd_sound h hx h1 hp hg
  generalize hv : ac.eval x = v at hx1
  cases hx1 with
  | gpt _ _ _ g3 =>
    obtain ⟨b, rfl, g4⟩ := g3 (hw.trans (h.s.sto k _ hk).2.1.symm)
    obtain ⟨arr, e, h2, h3, h4⟩ := h.s.gCells hk g4
    obtain ⟨u, e1, e2⟩ := ld_one (P := P) hu ha h2 h3 h4 hc
    exact ⟨u, by simp [execOp, ho, hv, e1], e2⟩
theorem e_ld_ga {t : TypeId} {n : Nat} {x : Operand} {x' : Ar} {k ver off w : Nat} {cs : List V} {p : List Bool} (hn : szOf P t = some n) (ha : isAggT P t = true)
    (ho : o.op = .load t x) (hx : opA x = some x') (h1 : rd gc st x' = (.gpt k ver off, p)) (hp : ∀ q ∈ p, q) (hk : aget st.s.sto k = some (.gro w cs)) (hw : ver = w) (hl : off + n ≤ cs.length) :
    ESound P o gc st (.agg ((cs.drop off).take n)) := by
  intro C Λ ac _ hg h
  have hx1 := rd_sound h hx h1 hp hg
  generalize hv : ac.eval x = v at hx1
  cases hx1 with
  | gpt _ _ _ g3 =>
    obtain ⟨b, rfl, g4⟩ := g3 (hw.trans (h.s.sto k _ hk).2.1.symm)
    obtain ⟨arr, e, h2, h3, h4⟩ := h.s.gCells hk g4
    obtain ⟨u, e1, e2⟩ := ld_agg (P := P) hn ha h2 h3 h4 hl
    exact ⟨u, by simp [execOp, ho, hv, e1], e2⟩

end
end Go.GB


/-
  GaH: the operations that only compute: indices, lengths, parts, structs built.
-/
namespace Go.GB
section
variable {P : Program} {o : Oper} {gc : Bool} {st : St}

theorem szOf_run {t : TypeId} {n : Nat} (h : szOf P t = some n) (w : World) : (sizeOf t).run P w = .ok n w := by
  unfold szOf at h
  cases hi : P.info? t with
  | none => rw [hi] at h; simp at h
  | some i => rw [hi] at h; simp at h; subst h; simp [sizeOf, typeInfo, hi]

theorem run_indexAt_slice {t e : TypeId} {sz : Nat} (hu : P.underlying t = some (.slice e)) (hs : szOf P e = some sz) {b off len cap : Nat} {k : IntKind} {n : Int} (h0 : 0 ≤ n) (h1 : n < len) (w : World) :
    (Instr.indexAt t (.slice (some ⟨b, off, none⟩) len cap) (.int k n)).run P w = .ok (.pointer (some ⟨b, off + n.toNat * sz, none⟩)) w := by
  simp [Instr.indexAt, asIntOf, run_underlying hu, szOf_run hs, h0, h1, add_mk]

theorem run_indexAt_array {t e : TypeId} {m sz : Nat} (hu : P.underlying t = some (.array m e)) (hs : szOf P e = some sz) {b off : Nat} {k : IntKind} {n : Int} (h0 : 0 ≤ n) (h1 : n < m) (w : World) :
    (Instr.indexAt t (.pointer (some ⟨b, off, none⟩)) (.int k n)).run P w = .ok (.pointer (some ⟨b, off + n.toNat * sz, none⟩)) w := by
  simp [Instr.indexAt, asIntOf, run_underlying hu, szOf_run hs, Instr.sureAddr, h0, h1, add_mk]

theorem lt_of_getElem? {xs : List (List T)} {n : Int} {c : List T} (h0 : 0 ≤ n) (h : xs[n.toNat]? = some c) : n < xs.length := by
  have := (List.getElem?_eq_some_iff.1 h).1
  omega

theorem e_ia {t e : TypeId} {sz : Nat} {x i : Operand} {x' i' : Ar} {v : V} {k : IntKind} {n : Int} {xs : List (List T)} {c : List T} {p1 p2 : List Bool}
    (hu : P.underlying t = some (.slice e)) (hs : szOf P e = some sz) (ho : o.op = .indexAddr t x i) (hx : opA x = some x') (hi : opA i = some i')
    (h1 : rd gc st x' = (v, p1)) (h2 : rd gc st i' = (.t (.int k n), p2)) (hv : v.cell1 = some (.lst xs)) (hc : xs[n.toNat]? = some c) (hsz : c.length = sz ∧ sz ≠ 0)
    (hp : ∀ q ∈ p1 ++ (p2 ++ [decide (0 ≤ n)]), q) : ESound P o gc st (.t (.ptr c)) := by
  intro C Λ ac _ hg h
  have hx1 := rd_sound h hx h1 (fun q hq => hp q (by simp [hq])) hg
  have hi1 := rd_sound h hi h2 (fun q hq => hp q (by simp [hq])) hg
  have h0 : 0 ≤ n := of_decide_eq_true (hp _ (by simp))
  have e2 := hi1.repT.int_inv
  have hr := hx1.cell1 hv
  generalize hv' : ac.eval x = u at hr
  have hlt := lt_of_getElem? h0 hc
  cases hr with
  | lst a cap sz' _ b off vf _ hsz' ha hr' hc' hrep =>
    obtain ⟨hcl, hz⟩ := hsz
    have e3 : c.length = sz' := hsz' _ _ hc
    have esz : sz' = sz := by omega
    subst esz
    have hlc : 0 < c.length := by omega
    have h0c : c[0]? = some c[0] := by simp [hlc]
    have ea := ha n.toNat 0 c _ hc h0c
    subst ea
    refine ⟨_, by simp only [execOp, ho, hv', e2]; simp [run_indexAt_slice hu hs h0 hlt], .t (.ptr c b _ (vf n.toNat) (fun j y hj => hr' n.toNat j c y hc hj) (fun j y hj => hc' n.toNat j c y hc hj) (fun j y hj => hrep n.toNat j c y hc hj))⟩

theorem e_ia_slc {t e : TypeId} {sz : Nat} {x i : Operand} {x' i' : Ar} {k : IntKind} {n : Int} {q off len : Nat} {p1 p2 : List Bool}
    (hu : P.underlying t = some (.slice e)) (hs : szOf P e = some sz) (ho : o.op = .indexAddr t x i) (hx : opA x = some x') (hi : opA i = some i')
    (h1 : rd gc st x' = (.slc q off len sz, p1)) (h2 : rd gc st i' = (.t (.int k n), p2)) (hp : ∀ q ∈ p1 ++ (p2 ++ [decide (0 ≤ n), decide (n < (len : Int))]), q) : ESound P o gc st (.ptr q (off + n.toNat * sz)) := by
  intro C Λ ac _ hg h
  have hx1 := rd_sound h hx h1 (fun q hq => hp q (by simp [hq])) hg
  have hi1 := rd_sound h hi h2 (fun q hq => hp q (by simp [hq])) hg
  have h0 : 0 ≤ n := of_decide_eq_true (hp _ (by simp))
  have hlt : n < len := of_decide_eq_true (hp _ (by simp))
  have e2 := hi1.repT.int_inv
  generalize hv' : ac.eval x = u at hx1
  cases hx1 with
  | slc hk _ h' => exact ⟨_, by simp only [execOp, ho, hv', e2]; simp [run_indexAt_slice hu hs h0 hlt], .ptr hk h'⟩

theorem e_ia_g {t e : TypeId} {sz : Nat} {x i : Operand} {x' i' : Ar} {k : IntKind} {n : Int} {q ver off len w : Nat} {cs : List V} {p1 p2 : List Bool}
    (hu : P.underlying t = some (.slice e)) (hs : szOf P e = some sz) (ho : o.op = .indexAddr t x i) (hx : opA x = some x') (hi : opA i = some i')
    (h1 : rd gc st x' = (.gsl q ver off len sz, p1)) (h2 : rd gc st i' = (.t (.int k n), p2)) (hk : aget st.s.sto q = some (.gro w cs)) (hp : ∀ q ∈ p1 ++ (p2 ++ [decide (0 ≤ n), decide (n < (len : Int)), decide (0 < w), decide (ver = w)]), q) : ESound P o gc st (.gpt q ver (off + n.toNat * sz)) := by
  intro C Λ ac _ hg h
  have hx1 := rd_sound h hx h1 (fun q hq => hp q (by simp [hq])) hg
  have hi1 := rd_sound h hi h2 (fun q hq => hp q (by simp [hq])) hg
  have h0 : 0 ≤ n := of_decide_eq_true (hp _ (by simp))
  have hlt : n < len := of_decide_eq_true (hp _ (by simp))
  have hw : ver = w := of_decide_eq_true (hp _ (by simp))
  have e2 := hi1.repT.int_inv
  generalize hv' : ac.eval x = u at hx1
  cases hx1 with
  | gsl _ hk1 hn1 h' =>
    rcases h' (hw.trans (h.s.sto q _ hk).2.1.symm) with ⟨_, hl⟩ | ⟨b, cap, N, rfl, hc, hb, hN, he⟩
    · omega
    · exact ⟨_, by simp only [execOp, ho, hv', e2]; simp [run_indexAt_slice hu hs h0 hlt], .gpt ⟨_, rfl⟩ hk1 ⟨Nat.pos_of_ne_zero (fun h0 => by have := (hn1.1 h0).2; omega), hn1.2⟩ (fun _ => ⟨b, rfl, hb⟩)⟩

theorem e_iarr {t e : TypeId} {m sz : Nat} {x i : Operand} {x' i' : Ar} {k : IntKind} {n : Int} {v r : V} {p1 p2 : List Bool}
    (hu : P.underlying t = some (.array m e)) (hs : szOf P e = some sz) (ho : o.op = .indexAddr t x i) (hx : opA x = some x') (hi : opA i = some i')
    (h1 : rd gc st x' = (v, p1)) (h2 : rd gc st i' = (.t (.int k n), p2)) (hp : ∀ q ∈ p1 ++ (p2 ++ [decide (0 ≤ n), decide (n < (m : Int))]), q)
    (hv : (∃ a b, v = .ptr a b ∧ r = .ptr a (b + n.toNat * sz)) ∨ ∃ c, v = .t (.ptr c) ∧ r = .t (.ptr (c.drop (n.toNat * sz)))) : ESound P o gc st r := by
  intro C Λ ac _ hg h
  have hx1 := rd_sound h hx h1 (fun q hq => hp q (by simp [hq])) hg
  have hi1 := rd_sound h hi h2 (fun q hq => hp q (by simp [hq])) hg
  have h0 : 0 ≤ n := of_decide_eq_true (hp _ (by simp))
  have hlt : n < m := of_decide_eq_true (hp _ (by simp))
  have e2 := hi1.repT.int_inv
  rcases hv with ⟨a, b, rfl, rfl⟩ | ⟨c, rfl, rfl⟩
  · generalize hv' : ac.eval x = u at hx1
    cases hx1 with
    | ptr hk h' => exact ⟨_, by simp only [execOp, ho, hv', e2]; simp [run_indexAt_array hu hs h0 hlt], .ptr hk h'⟩
  · have hr := hx1.repT
    obtain ⟨b, o', hv'⟩ := hr.ptr_inv
    rw [hv'] at hr
    exact ⟨_, by simp only [execOp, ho, hv', e2]; simp [run_indexAt_array hu hs h0 hlt], .t hr.ptr_drop⟩

theorem e_ixs {t : TypeId} {x i : Operand} {x' i' : Ar} {k : IntKind} {n : Int} {s : List UInt8} {b : UInt8} {p1 p2 : List Bool}
    (hu : P.underlying t = some .string) (ho : o.op = .index t x i) (hx : opA x = some x') (hi : opA i = some i')
    (h1 : rd gc st x' = (.t (.str s), p1)) (h2 : rd gc st i' = (.t (.int k n), p2)) (hb : s[n.toNat]? = some b) (hp : ∀ q ∈ p1 ++ (p2 ++ [decide (0 ≤ n)]), q) : ESound P o gc st (.t (.int .u8 b.toNat)) := by
  intro C Λ ac _ hg h
  have hx1 := rd_sound h hx h1 (fun q hq => hp q (by simp [hq])) hg
  have hi1 := rd_sound h hi h2 (fun q hq => hp q (by simp [hq])) hg
  have h0 : 0 ≤ n := of_decide_eq_true (hp _ (by simp))
  have e1 := hx1.repT.str_inv
  have e2 := hi1.repT.int_inv
  have e3 : (⟨⟨s⟩⟩ : ByteArray)[n.toNat]? = some b := by
    have hlt := (List.getElem?_eq_some_iff.1 hb).1
    rw [getElem?_pos (⟨⟨s⟩⟩ : ByteArray) n.toNat (by exact hlt)]
    obtain ⟨_, rfl⟩ := List.getElem?_eq_some_iff.1 hb
    rfl
  refine ⟨.int .u8 b.toNat, ?_, .t (.int _ _)⟩
  simp only [execOp, ho, e1, e2]
  simp [Instr.index, asIntOf, run_underlying hu, h0, e3]

theorem part_one {t : TypeId} {d : TypeDesc} (hu : P.underlying t = some d) (ha : isAggT P t = false) {vs : Array Value} {off : Nat} {v : Value} (hv : vs[off]? = some v) (w : World) : (part t vs off).run P w = .ok v w := by
  have hagg : (isAgg t).run P w = .ok false w := by
    unfold isAgg
    rw [Sem.run_bind, run_underlying hu w]
    unfold isAggT at ha
    rw [hu] at ha
    cases d <;> simp_all
  simp [part, hagg, hv]

theorem part_agg {t : TypeId} {n : Nat} (hn : szOf P t = some n) (ha : isAggT P t = true) {vs : Array Value} {off : Nat} (w : World) : (part t vs off).run P w = .ok (.agg (vs.extract off (off + n))) w := by
  have hagg : (isAgg t).run P w = .ok true w := by
    unfold isAgg
    unfold isAggT at ha
    cases hu : P.underlying t with
    | none => rw [hu] at ha; simp at ha
    | some d =>
      rw [hu] at ha
      rw [Sem.run_bind, run_underlying hu w]
      cases d <;> simp_all
  simp [part, hagg, szOf_run hn]

theorem RelV.sub {Λ : L} {vs : Array Value} {cs : List V} (hs : vs.size = cs.length) (h : ∀ (j : Nat) (v : Value) (c : V), vs[j]? = some v → cs[j]? = some c → RelV Λ v c) {off n : Nat} (_ : off + n ≤ cs.length) :
    RelV Λ (.agg (vs.extract off (off + n))) (.agg ((cs.drop off).take n)) := by
  have := RelV.subL (Λ := Λ) (vs := vs.toList) (cs := cs) (fun j v c e1 e2 => h j v c (by simpa using e1) e2) (by simpa using hs) off n
  have e : ((vs.toList.drop off).take n).toArray = vs.extract off (off + n) := by
    apply Array.ext'
    simp [Nat.add_sub_cancel_left]
  rwa [e] at this

theorem e_fld {t : TypeId} {fs : Array Field} {f : Nat} {fd : Field} {d : TypeDesc} {x : Operand} {x' : Ar} {cs : List V} {c : V} {p : List Bool} (hu : P.underlying t = some (.struct fs)) (hf : fs[f]? = some fd)
    (hd : P.underlying fd.type = some d) (ha : isAggT P fd.type = false)
    (ho : o.op = .field t x f) (hx : opA x = some x') (h1 : rd gc st x' = (.agg cs, p)) (hp : ∀ q ∈ p, q) (hc : cs[fd.offset]? = some c) : ESound P o gc st c := by
  intro C Λ ac _ hg h
  have hx1 := rd_sound h hx h1 hp hg
  generalize hv' : ac.eval x = u at hx1
  cases hx1 with
  | @agg vs _ hs h' =>
    have hlt := (List.getElem?_eq_some_iff.1 hc).1
    have hg' : vs[fd.offset]? = some (vs[fd.offset]'(by omega)) := by simp
    refine ⟨_, ?_, (h' _ _ c hg' hc)⟩
    simp only [execOp, ho, hv']
    simp [Instr.field, run_underlying hu, hf, asAgg, part_one hd ha hg']

theorem e_flda {t : TypeId} {fs : Array Field} {f : Nat} {fd : Field} {n : Nat} {x : Operand} {x' : Ar} {cs : List V} {p : List Bool} (hu : P.underlying t = some (.struct fs)) (hf : fs[f]? = some fd)
    (hn : szOf P fd.type = some n) (ha : isAggT P fd.type = true)
    (ho : o.op = .field t x f) (hx : opA x = some x') (h1 : rd gc st x' = (.agg cs, p)) (hp : ∀ q ∈ p, q) (hl : fd.offset + n ≤ cs.length) : ESound P o gc st (.agg (((cs.drop fd.offset).take n))) := by
  intro C Λ ac _ hg h
  have hx1 := rd_sound h hx h1 hp hg
  generalize hv' : ac.eval x = u at hx1
  cases hx1 with
  | @agg vs _ hs h' =>
    refine ⟨_, ?_, RelV.sub hs h' hl⟩
    simp only [execOp, ho, hv']
    simp [Instr.field, run_underlying hu, hf, asAgg, part_agg hn ha]

theorem e_ixa {t e : TypeId} {m sz : Nat} {d : TypeDesc} {x i : Operand} {x' i' : Ar} {k : IntKind} {n : Int} {cs : List V} {c : V} {p1 p2 : List Bool}
    (hu : P.underlying t = some (.array m e)) (hs : szOf P e = some sz) (hd : P.underlying e = some d) (ha : isAggT P e = false) (ho : o.op = .index t x i) (hx : opA x = some x') (hi : opA i = some i')
    (h1 : rd gc st x' = (.agg cs, p1)) (h2 : rd gc st i' = (.t (.int k n), p2)) (hc : cs[n.toNat * sz]? = some c) (hp : ∀ q ∈ p1 ++ (p2 ++ [decide (0 ≤ n), decide (n < (m : Int))]), q) : ESound P o gc st c := by
  intro C Λ ac _ hg h
  have hx1 := rd_sound h hx h1 (fun q hq => hp q (by simp [hq])) hg
  have hi1 := rd_sound h hi h2 (fun q hq => hp q (by simp [hq])) hg
  have h0 : 0 ≤ n := of_decide_eq_true (hp _ (by simp))
  have hlt : n < m := of_decide_eq_true (hp _ (by simp))
  have e2 := hi1.repT.int_inv
  generalize hv' : ac.eval x = u at hx1
  cases hx1 with
  | @agg vs _ hs' h' =>
    have hlt' := (List.getElem?_eq_some_iff.1 hc).1
    have hg' : vs[n.toNat * sz]? = some (vs[n.toNat * sz]'(by omega)) := by simp
    refine ⟨_, ?_, (h' _ _ c hg' hc)⟩
    simp only [execOp, ho, hv', e2]
    simp [Instr.index, asIntOf, run_underlying hu, h0, hlt, szOf_run hs, part_one hd ha hg']

theorem e_ixaa {t e : TypeId} {m sz : Nat} {x i : Operand} {x' i' : Ar} {k : IntKind} {n : Int} {cs : List V} {p1 p2 : List Bool}
    (hu : P.underlying t = some (.array m e)) (hs : szOf P e = some sz) (ha : isAggT P e = true) (ho : o.op = .index t x i) (hx : opA x = some x') (hi : opA i = some i')
    (h1 : rd gc st x' = (.agg cs, p1)) (h2 : rd gc st i' = (.t (.int k n), p2)) (hl : n.toNat * sz + sz ≤ cs.length) (hp : ∀ q ∈ p1 ++ (p2 ++ [decide (0 ≤ n), decide (n < (m : Int))]), q) :
    ESound P o gc st (.agg (((cs.drop (n.toNat * sz)).take sz))) := by
  intro C Λ ac _ hg h
  have hx1 := rd_sound h hx h1 (fun q hq => hp q (by simp [hq])) hg
  have hi1 := rd_sound h hi h2 (fun q hq => hp q (by simp [hq])) hg
  have h0 : 0 ≤ n := of_decide_eq_true (hp _ (by simp))
  have hlt : n < m := of_decide_eq_true (hp _ (by simp))
  have e2 := hi1.repT.int_inv
  generalize hv' : ac.eval x = u at hx1
  cases hx1 with
  | @agg vs _ hs' h' =>
    refine ⟨_, ?_, RelV.sub hs' h' hl⟩
    simp only [execOp, ho, hv', e2]
    simp [Instr.index, asIntOf, run_underlying hu, h0, hlt, szOf_run hs, part_agg hs ha]

theorem e_len {t : TypeId} {x : Operand} {x' : Ar} {args : Array Operand} {ats : Array TypeId} {d : TypeDesc} {v : V} {n : Nat} {p : List Bool} (ha : args[0]? = some x) (hat : ats[0]? = some t) (hu : P.underlying t = some d)
    (hd : d = .string ∨ ∃ e, d = .slice e) (ho : o.op = .call { callee := .builtin .len, args := args, argTypes := ats }) (hx : opA x = some x') (h1 : rd gc st x' = (v, p)) (hp : ∀ q ∈ p, q)
    (hv : (d = .string ∧ ∃ s, v = .t (.str s) ∧ n = s.length) ∨ ((∃ e, d = .slice e) ∧ ((∃ xs, v.cell1 = some (.lst xs) ∧ n = xs.length) ∨ ∃ a b c, v = .slc a b n c))) : ESound P o gc st (.t (.int .i64 n)) := by
  intro C Λ ac _ hg h
  have hx1 := rd_sound h hx h1 hp hg
  have hax : (args.map ac.eval)[0]? = some (ac.eval x) := by simp [ha]
  refine ⟨.int .i64 n, ?_, .t (.int _ _)⟩
  rcases hv with ⟨rfl, s, rfl, rfl⟩ | ⟨⟨e, rfl⟩, ⟨xs, hc, rfl⟩ | ⟨a, b, c, rfl⟩⟩
  · have e1 := hx1.repT.str_inv
    rw [e1] at hax
    simp only [execOp, ho, resolve, Sem.run_bind, Sem.run_pure, Result.andThen_ok, invoke, builtin]
    simp [Builtin.len_, hat, hax, run_underlying hu, goInt]
    rfl
  · have hr := hx1.cell1 hc
    generalize hv' : ac.eval x = u at hr hax
    cases hr with
    | lst a cap sz _ b off vf _ h1 h2 h3 h4 h5 =>
      simp only [execOp, ho, resolve, Sem.run_bind, Sem.run_pure, Result.andThen_ok, invoke, builtin]
      simp [Builtin.len_, hat, hax, run_underlying hu, goInt]
  · generalize hv' : ac.eval x = u at hx1 hax
    cases hx1 with
    | slc hk _ h' =>
      simp only [execOp, ho, resolve, Sem.run_bind, Sem.run_pure, Result.andThen_ok, invoke, builtin]
      simp [Builtin.len_, hat, hax, run_underlying hu, goInt]

theorem e_len_g {t : TypeId} {x : Operand} {x' : Ar} {args : Array Operand} {ats : Array TypeId} {e : TypeId} {k ver off n sz w : Nat} {cs : List V} {p : List Bool} (ha : args[0]? = some x) (hat : ats[0]? = some t) (hu : P.underlying t = some (.slice e))
    (ho : o.op = .call { callee := .builtin .len, args := args, argTypes := ats }) (hx : opA x = some x') (h1 : rd gc st x' = (.gsl k ver off n sz, p)) (hp : ∀ q ∈ p, q) (hk : aget st.s.sto k = some (.gro w cs)) (hw : ver = w) : ESound P o gc st (.t (.int .i64 n)) := by
  intro C Λ ac _ hg h
  have hx1 := rd_sound h hx h1 hp hg
  have hax : (args.map ac.eval)[0]? = some (ac.eval x) := by simp [ha]
  refine ⟨.int .i64 n, ?_, .t (.int _ _)⟩
  generalize hv' : ac.eval x = u at hx1 hax
  cases hx1 with
  | gsl _ hk1 hn1 h' =>
    rcases h' (hw.trans (h.s.sto k _ hk).2.1.symm) with ⟨⟨a, rfl⟩, hl⟩ | ⟨b, cap, N, rfl, hc, hb, hN, he⟩
    · subst hl
      simp only [execOp, ho, resolve, Sem.run_bind, Sem.run_pure, Result.andThen_ok, invoke, builtin]
      simp [Builtin.len_, hat, hax, run_underlying hu, goInt]
    · simp only [execOp, ho, resolve, Sem.run_bind, Sem.run_pure, Result.andThen_ok, invoke, builtin]
      simp [Builtin.len_, hat, hax, run_underlying hu, goInt]

end
end Go.GB


/-
  GaI: the operations that only compute: parts of strings and slices, the greater and the lesser, structs built, closures made.
-/
namespace Go.GB
section
variable {P : Program} {o : Oper} {gc : Bool} {st : St}

theorem extract_mk (s : List UInt8) (l h : Nat) : (⟨⟨s⟩⟩ : ByteArray).extract l h = ⟨⟨(s.take h).drop l⟩⟩ := by
  apply ByteArray.ext
  apply Array.ext'
  rw [Lib.extract_data]
  simp [List.drop_take]

theorem run_bound {k : IntKind} {n : Int} {y : Nat} (h0 : 0 ≤ n) (h1 : n ≤ y) (c : BoundsCode) (w : World) : (Instr.sliceBound (.int k n) y c).run P w = .ok n.toNat w := by
  simp [Instr.sliceBound, asIntOf, h0, h1]

theorem bnd_sound {C : Ctx} {Λ : L} {ac : Act} (h : Rel C Λ st ac) {y : Option Operand} {x : Option Ar} (hy : opAo y = some x) {d n : Int} {p : List Bool} (hb : bnd x gc st d = some (n, p))
    (hp : ∀ q ∈ p, q) (hg : gc = true) : (y = none ∧ n = d) ∨ ∃ z k, y = some z ∧ ac.eval z = .int k n := by
  cases y with
  | none =>
    simp [opAo] at hy; subst hy; simp [bnd] at hb
    exact .inl ⟨rfl, hb.1.symm⟩
  | some z =>
    simp only [opAo, Option.map_eq_some_iff] at hy
    obtain ⟨a, ha, rfl⟩ := hy
    simp only [bnd] at hb
    split at hb
    · rename_i m q hr
      simp at hb
      obtain ⟨rfl, rfl⟩ := hb
      have hv := rd_sound h ha hr hp hg
      exact .inr ⟨z, _, rfl, hv.repT.int_inv⟩
    · simp at hb

theorem run_sliceBounds {b : Bool} {len cap : Nat} {lo hi : Option Value} {l h : Int} (hlo : lo = none ∧ l = 0 ∨ ∃ k, lo = some (.int k l)) (hhi : hi = none ∧ h = len ∨ ∃ k, hi = some (.int k h))
    (h0 : 0 ≤ l) (h1 : l ≤ h) (h2 : h ≤ cap) (w : World) : (Instr.sliceBounds b len cap lo hi none).run P w = .ok (l.toNat, h.toNat, cap) w := by
  rcases hhi with ⟨rfl, rfl⟩ | ⟨k, rfl⟩
  · rcases hlo with ⟨rfl, rfl⟩ | ⟨k', rfl⟩
    · simp [Instr.sliceBounds]
    · simp [Instr.sliceBounds, run_bound h0 h1]
  · have hh : 0 ≤ h := by omega
    rcases hlo with ⟨rfl, rfl⟩ | ⟨k', rfl⟩
    · simp [Instr.sliceBounds, run_bound hh h2]
    · simp [Instr.sliceBounds, run_bound hh h2, run_bound (y := h.toNat) h0 (by omega)]

theorem e_sls {t : TypeId} {x : Operand} {lo hi : Option Operand} {x' : Ar} {lo' hi' : Option Ar} {s : List UInt8} {l h : Int} {p p1 p2 : List Bool} (hu : P.underlying t = some .string)
    (ho : o.op = .slice t x lo hi none) (hx : opA x = some x') (hl : opAo lo = some lo') (hh : opAo hi = some hi') (h1 : rd gc st x' = (.t (.str s), p))
    (h2 : bnd lo' gc st 0 = some (l, p1)) (h3 : bnd hi' gc st s.length = some (h, p2)) (hp : ∀ q ∈ p ++ (p1 ++ (p2 ++ [decide (0 ≤ l), decide (l ≤ h), decide (h ≤ (s.length : Int))])), q) :
    ESound P o gc st (.t (.str ((s.take h.toNat).drop l.toNat))) := by
  intro C Λ ac _ hg hr
  have hx1 := rd_sound hr hx h1 (fun q hq => hp q (by simp [hq])) hg
  have e1 := hx1.repT.str_inv
  have b1 := bnd_sound hr hl h2 (fun q hq => hp q (by simp [hq])) hg
  have b2 := bnd_sound hr hh h3 (fun q hq => hp q (by simp [hq])) hg
  have g0 : 0 ≤ l := of_decide_eq_true (hp _ (by simp))
  have g1 : l ≤ h := of_decide_eq_true (hp _ (by simp))
  have g2 : h ≤ s.length := of_decide_eq_true (hp _ (by simp))
  refine ⟨.string ⟨⟨(s.take h.toNat).drop l.toNat⟩⟩, ?_, .t (.str _)⟩
  have hb := run_sliceBounds (P := P) (b := false) (len := s.length) (cap := s.length) (lo := lo.map ac.eval) (hi := hi.map ac.eval) (l := l) (h := h)
    (by rcases b1 with ⟨rfl, rfl⟩ | ⟨z, k, rfl, e⟩ <;> simp [*]) (by rcases b2 with ⟨rfl, rfl⟩ | ⟨z, k, rfl, e⟩ <;> simp [*]) g0 g1 g2 Λ.w
  have hs : (⟨⟨s⟩⟩ : ByteArray).size = s.length := rfl
  simp only [execOp, ho, e1, Option.map_none]
  simp [Instr.sliceAt, Instr.slice, run_underlying hu, hs, hb, extract_mk]

theorem allLen_at {sz : Nat} {xs : List (List T)} (h : allLen sz xs = true) (i : Nat) (c : List T) (hc : xs[i]? = some c) : c.length = sz := by
  unfold allLen at h
  rw [List.all_eq_true] at h
  simpa using h c (List.mem_of_getElem? hc)

theorem RepT.sub {lb : Nat → Lab} {w : World} {a : Option Addr} {n cap sz l h : Nat} {xs : List (List T)} (hr : RepT lb w (.slice a n cap) (.lst xs)) (hsz : ∀ (i : Nat) (c : List T), xs[i]? = some c → c.length = sz)
    (h1 : l ≤ h) (h2 : h ≤ xs.length) : RepT lb w (.slice (if cap = l then a else a.map (·.add (l * sz))) (h - l) (cap - l)) (.lst ((xs.take h).drop l)) := by
  cases hr with
  | lst _ _ sz' _ b off vf hcap hsz' ha hr' hc' hrep =>
    have hlen : ((xs.take h).drop l).length = h - l := by simp; omega
    have hget : ∀ (i : Nat) (c : List T), ((xs.take h).drop l)[i]? = some c → xs[l + i]? = some c ∧ l + i < h := by
      intro i c hi
      rw [List.getElem?_drop, List.getElem?_take] at hi
      split at hi
      · exact ⟨hi, by assumption⟩
      · cases hi
    have key : RepT lb w (.slice (if cap = l then a else a.map (·.add (l * sz))) ((xs.take h).drop l).length (cap - l)) (.lst ((xs.take h).drop l)) := by
      refine .lst _ _ sz' _ b (off + l * sz') (fun i j => vf (l + i) j) (by rw [hlen]; omega) (fun i c hi => hsz' _ c (hget i c hi).1) ?_ ?_ ?_ ?_
      · intro i j c x hi hj
        have := (hget i c hi)
        have ea := ha _ j c x this.1 hj
        subst ea
        have : cap ≠ l := by omega
        have e1 := hsz _ c (hget i c hi).1
        have e2 := hsz' _ c (hget i c hi).1
        have : sz = sz' := by omega
        subst this
        simp [*, add_mk]
      · intro i j c x hi hj
        have := hr' _ j c x (hget i c hi).1 hj
        rwa [Nat.add_mul, ← Nat.add_assoc] at this
      · intro i j c x hi hj
        have := hc' _ j c x (hget i c hi).1 hj
        rwa [Nat.add_mul, ← Nat.add_assoc] at this
      · intro i j c x hi hj
        exact hrep _ j c x (hget i c hi).1 hj
    rwa [hlen] at key

theorem e_sll {t e : TypeId} {sz : Nat} {x : Operand} {lo hi : Option Operand} {x' : Ar} {lo' hi' : Option Ar} {v : V} {xs : List (List T)} {l h : Int} {p p1 p2 : List Bool} (hu : P.underlying t = some (.slice e)) (hs : szOf P e = some sz)
    (ho : o.op = .slice t x lo hi none) (hx : opA x = some x') (hl : opAo lo = some lo') (hh : opAo hi = some hi') (h1 : rd gc st x' = (v, p)) (hv : v.cell1 = some (.lst xs))
    (h2 : bnd lo' gc st 0 = some (l, p1)) (h3 : bnd hi' gc st xs.length = some (h, p2)) (hp : ∀ q ∈ p ++ (p1 ++ (p2 ++ [decide (0 ≤ l), decide (l ≤ h), decide (h ≤ (xs.length : Int)), allLen sz xs])), q) :
    ESound P o gc st (.t (.lst ((xs.take h.toNat).drop l.toNat))) := by
  intro C Λ ac _ hg hr
  have hx1 := rd_sound hr hx h1 (fun q hq => hp q (by simp [hq])) hg
  have b1 := bnd_sound hr hl h2 (fun q hq => hp q (by simp [hq])) hg
  have b2 := bnd_sound hr hh h3 (fun q hq => hp q (by simp [hq])) hg
  have g0 : 0 ≤ l := of_decide_eq_true (hp _ (by simp))
  have g1 : l ≤ h := of_decide_eq_true (hp _ (by simp))
  have g2 : h ≤ xs.length := of_decide_eq_true (hp _ (by simp))
  have hsz := allLen_at (hp (allLen sz xs) (by simp))
  have hrx := hx1.cell1 hv
  generalize hv' : ac.eval x = u at hrx
  have hrx' := hrx
  cases hrx with
  | lst a cap sz' _ b off vf hcap _ _ _ _ _ =>
    have hb := run_sliceBounds (P := P) (b := true) (len := xs.length) (cap := cap) (lo := lo.map ac.eval) (hi := hi.map ac.eval) (l := l) (h := h)
      (by rcases b1 with ⟨rfl, rfl⟩ | ⟨z, k, rfl, e⟩ <;> simp [*]) (by rcases b2 with ⟨rfl, rfl⟩ | ⟨z, k, rfl, e⟩ <;> simp [*]) g0 g1 (by omega) Λ.w
    refine ⟨_, ?_, .t (hrx'.sub hsz (l := l.toNat) (h := h.toNat) (by omega) (by omega))⟩
    simp only [execOp, ho, hv', Option.map_none]
    simp [Instr.sliceAt, Instr.slice, run_underlying hu, hb, szOf_run hs]

theorem e_slc {t e : TypeId} {sz : Nat} {x : Operand} {lo hi : Option Operand} {x' : Ar} {lo' hi' : Option Ar} {q off len s : Nat} {l h : Int} {p p1 p2 : List Bool} (hu : P.underlying t = some (.slice e)) (hs : szOf P e = some sz)
    (ho : o.op = .slice t x lo hi none) (hx : opA x = some x') (hl : opAo lo = some lo') (hh : opAo hi = some hi') (h1 : rd gc st x' = (.slc q off len s, p))
    (h2 : bnd lo' gc st 0 = some (l, p1)) (h3 : bnd hi' gc st len = some (h, p2)) (hp : ∀ b ∈ p ++ (p1 ++ (p2 ++ [decide (l = 0), decide (0 ≤ h), decide (h ≤ (len : Int)), s == sz])), b) :
    ESound P o gc st (.slc q off h.toNat s) := by
  intro C Λ ac _ hg hr
  have hx1 := rd_sound hr hx h1 (fun b hb => hp b (by simp [hb])) hg
  have b1 := bnd_sound hr hl h2 (fun b hb => hp b (by simp [hb])) hg
  have b2 := bnd_sound hr hh h3 (fun b hb => hp b (by simp [hb])) hg
  have g0 : l = 0 := of_decide_eq_true (hp _ (by simp))
  have g1 : 0 ≤ h := of_decide_eq_true (hp _ (by simp))
  have g2 : h ≤ len := of_decide_eq_true (hp _ (by simp))
  subst g0
  generalize hv' : ac.eval x = u at hx1
  cases hx1 with
  | @slc b _ _ _ cap _ hk hc h' =>
    have hb := run_sliceBounds (P := P) (b := true) (len := len) (cap := cap) (lo := lo.map ac.eval) (hi := hi.map ac.eval) (l := 0) (h := h)
      (by rcases b1 with ⟨rfl, h0⟩ | ⟨z, k, rfl, e⟩ <;> simp [*]) (by rcases b2 with ⟨rfl, rfl⟩ | ⟨z, k, rfl, e⟩ <;> simp [*]) (by omega) g1 (by omega) Λ.w
    have hcap : h.toNat ≤ cap := by omega
    refine ⟨_, ?_, .slc hk hcap h'⟩
    simp only [execOp, ho, hv', Option.map_none]
    simp [Instr.sliceAt, Instr.slice, run_underlying hu, hb, szOf_run hs]
    intro _; simp [Addr.add]

theorem e_slg {t e : TypeId} {sz : Nat} {x : Operand} {lo hi : Option Operand} {x' : Ar} {lo' hi' : Option Ar} {q ver off len s w : Nat} {cs : List V} {l h : Int} {p p1 p2 : List Bool} (hu : P.underlying t = some (.slice e)) (hs : szOf P e = some sz)
    (ho : o.op = .slice t x lo hi none) (hx : opA x = some x') (hl : opAo lo = some lo') (hh : opAo hi = some hi') (h1 : rd gc st x' = (.gsl q ver off len s, p))
    (h2 : bnd lo' gc st 0 = some (l, p1)) (h3 : bnd hi' gc st len = some (h, p2)) (hp : ∀ b ∈ p ++ (p1 ++ (p2 ++ [decide (0 ≤ l), decide (l ≤ h), decide (h ≤ (len : Int)), s == sz, decide (ver = w)])), b) (hk : aget st.s.sto q = some (.gro w cs)) :
    ESound P o gc st (.gsl q ver (off + l.toNat * s) (h.toNat - l.toNat) s) := by
  intro C Λ ac _ hg hr
  have hx1 := rd_sound hr hx h1 (fun b hb => hp b (by simp [hb])) hg
  have b1 := bnd_sound hr hl h2 (fun b hb => hp b (by simp [hb])) hg
  have b2 := bnd_sound hr hh h3 (fun b hb => hp b (by simp [hb])) hg
  have g0 : 0 ≤ l := of_decide_eq_true (hp _ (by simp))
  have g1 : l ≤ h := of_decide_eq_true (hp _ (by simp))
  have g2 : h ≤ len := of_decide_eq_true (hp _ (by simp))
  have hw : ver = w := of_decide_eq_true (hp _ (by simp))
  have hse : (s == sz) = true := hp _ (by simp)
  have hse' : s = sz := by simpa using hse
  subst hse'
  generalize hv' : ac.eval x = u at hx1
  cases hx1 with
  | gsl _ hk1 hn1 h' =>
    rcases h' (hw.trans (hr.s.sto q _ hk).2.1.symm) with ⟨⟨a, rfl⟩, hl0⟩ | ⟨b, cap, N, rfl, hc, hb, hN, he⟩
    · subst hl0
      have hl' : l = 0 := by omega
      have hh' : h = 0 := by omega
      subst hl' hh'
      have hb := run_sliceBounds (P := P) (b := true) (len := 0) (cap := 0) (lo := lo.map ac.eval) (hi := hi.map ac.eval) (l := 0) (h := 0)
        (b1.elim (fun ⟨e0, e1⟩ => .inl ⟨by rw [e0]; rfl, e1⟩) (fun ⟨z, k, e0, e1⟩ => .inr ⟨k, by rw [e0]; simp [e1]⟩)) (b2.elim (fun ⟨e0, e1⟩ => .inl ⟨by rw [e0]; rfl, e1⟩) (fun ⟨z, k, e0, e1⟩ => .inr ⟨k, by rw [e0]; simp [e1]⟩)) (by omega) (by omega) (by omega) Λ.w
      refine ⟨.slice a 0 0, ?_, .gsl ⟨_, _, _, rfl⟩ hk1 ⟨fun _ => ⟨⟨_, rfl⟩, by simp⟩, hn1.2⟩ (fun _ => .inl ⟨⟨_, rfl⟩, by simp⟩)⟩
      simp only [execOp, ho, hv', Option.map_none]
      simp [Instr.sliceAt, Instr.slice, run_underlying hu, hb, szOf_run hs]
    · have hb1 := run_sliceBounds (P := P) (b := true) (len := len) (cap := cap) (lo := lo.map ac.eval) (hi := hi.map ac.eval) (l := l) (h := h)
        (b1.elim (fun ⟨e0, e1⟩ => .inl ⟨by rw [e0]; rfl, e1⟩) (fun ⟨z, k, e0, e1⟩ => .inr ⟨k, by rw [e0]; simp [e1]⟩)) (b2.elim (fun ⟨e0, e1⟩ => .inl ⟨by rw [e0]; rfl, e1⟩) (fun ⟨z, k, e0, e1⟩ => .inr ⟨k, by rw [e0]; simp [e1]⟩)) g0 g1 (by omega) Λ.w
      by_cases hcl : cap = l.toNat
      · -- nothing is left
        refine ⟨.slice (some ⟨b, off, none⟩) 0 0, ?_, .gsl ⟨_, _, _, rfl⟩ hk1 ⟨fun _ => ⟨⟨_, rfl⟩, by omega⟩, hn1.2⟩ (fun _ => .inl ⟨⟨_, rfl⟩, by omega⟩)⟩
        simp only [execOp, ho, hv', Option.map_none]
        rw [hcl] at hb1 hc
        simp [Instr.sliceAt, Instr.slice, run_underlying hu, hb1, szOf_run hs, hcl]
        omega
      · refine ⟨.slice (some ⟨b, off + l.toNat * s, none⟩) (h.toNat - l.toNat) (cap - l.toNat), ?_, .gsl ⟨_, _, _, rfl⟩ hk1 ⟨fun h0 => by obtain ⟨⟨a', e'⟩, _⟩ := hn1.1 h0; simp at e'; omega, hn1.2⟩ (fun _ => .inr ⟨b, cap - l.toNat, N, rfl, by omega, hb, hN, ?_⟩)⟩
        · simp only [execOp, ho, hv', Option.map_none]
          simp [Instr.sliceAt, Instr.slice, run_underlying hu, hb1, szOf_run hs, Addr.add, hcl]
        · have : l.toNat ≤ cap := by omega
          rw [← he, Nat.add_assoc, ← Nat.add_mul]
          congr 2; omega

theorem e_max {b : Bool} {x y : Operand} {x' y' : Ar} {args : Array Operand} {ats : Array TypeId} {k : IntKind} {m n : Int} {p1 p2 : List Bool} (ha : args.toList = [x, y])
    (ho : o.op = .call { callee := .builtin (if b then .max else .min), args := args, argTypes := ats }) (hx : opA x = some x') (hy : opA y = some y')
    (h1 : rd gc st x' = (.t (.int k m), p1)) (h2 : rd gc st y' = (.t (.int k n), p2)) (hp : ∀ q ∈ p1 ++ p2, q) :
    ESound P o gc st (.t (.int k (if b then (if n > m then n else m) else (if n < m then n else m)))) := by
  intro C Λ ac _ hg h
  have hx1 := rd_sound h hx h1 (fun q hq => hp q (by simp [hq])) hg
  have hy1 := rd_sound h hy h2 (fun q hq => hp q (by simp [hq])) hg
  have e1 := hx1.repT.int_inv
  have e2 := hy1.repT.int_inv
  have hm : args.toList.map ac.eval = [.int k m, .int k n] := by simp [ha, e1, e2]
  refine ⟨_, ?_, .t (.int _ _)⟩
  cases b
  · simp only [execOp, ho, resolve, Sem.run_bind, Sem.run_pure, Result.andThen_ok, invoke, builtin, Bool.false_eq_true, if_false]
    simp [Builtin.min_, Builtin.min2, hm]
  · simp only [execOp, ho, resolve, Sem.run_bind, Sem.run_pure, Result.andThen_ok, invoke, builtin, if_true]
    simp [Builtin.max_, Builtin.max2, hm]

end
end Go.GB

