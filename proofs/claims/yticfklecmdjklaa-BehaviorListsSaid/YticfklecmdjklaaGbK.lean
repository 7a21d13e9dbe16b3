/-
  GbK: steps that change memory: new blocks, cells written, arrays grown; what is kept.
-/
import Derived.Test.YticfklecmdjklaaGbJ
import Derived.Laws.AppendOwn
import Derived.Laws.CopyRow
import Derived.Laws.MakeOwn
namespace Go.GB

def relab (l : Nat → Lab) (b : Nat) (x : Lab) : Nat → Lab := fun b' => if b' = b then x else l b'
def refro (f : Nat → Nat) (k n : Nat) : Nat → Nat := fun k' => if k' = k then n else f k'

theorem relab_same {l : Nat → Lab} {b : Nat} {x : Lab} : relab l b x b = x := by simp [relab]
theorem relab_ne {l : Nat → Lab} {b b' : Nat} {x : Lab} (h : b' ≠ b) : relab l b x b' = l b' := by simp [relab, h]
theorem refro_same {f : Nat → Nat} {k n : Nat} : refro f k n k = n := by simp [refro]
theorem refro_ne {f : Nat → Nat} {k k' n : Nat} (h : k' ≠ k) : refro f k n k' = f k' := by simp [refro, h]

/-- w' is w with one block more -/
structure Grew (w w' : World) (o : Obj) : Prop where
  os : w'.os = w.os
  tape : w'.tape = w.tape
  output : w'.output = w.output
  heap : w'.heap = w.heap.push o

theorem Grew.size {w w' : World} {o : Obj} (g : Grew w w' o) : w'.heap.size = w.heap.size + 1 := by rw [g.heap]; simp
theorem Grew.old {w w' : World} {o : Obj} (g : Grew w w' o) {b : Nat} (h : b < w.heap.size) : w'.heap[b]? = w.heap[b]? := by
  rw [g.heap, Array.getElem?_push]; simp; omega
theorem Grew.top {w w' : World} {o : Obj} (g : Grew w w' o) : w'.heap[w.heap.size]? = some o := by rw [g.heap]; simp
theorem Grew.alloc (w : World) (o : Obj) : Grew w (w.alloc o) o := ⟨rfl, rfl, rfl, rfl⟩
theorem Grew.drewAlloc (w : World) (o : Obj) : Grew w (w.drew.alloc o) o := ⟨rfl, rfl, rfl, rfl⟩

/-- a new block; the length of one array may grow, whose block (if any) has been relabelled before -/
theorem Kp.new {Λ : L} {w' : World} {o : Obj} (g : Grew Λ.w w' o) (hb : ∀ b, Λ.w.heap.size ≤ b → Λ.lab b = .fix none) (X : Lab) :
    Kp Λ { Λ with lab := relab Λ.lab Λ.w.heap.size X, w := w' } := by
  have hne : ∀ {b : Nat}, b < Λ.w.heap.size → relab Λ.lab Λ.w.heap.size X b = Λ.lab b := fun h => relab_ne (by omega)
  refine ⟨⟨g.os, g.tape, g.output, by rw [g.size]; omega, fun b h fr hl => ⟨by simp only [hne h]; exact hl, g.old h⟩, fun b h k fr hl o ho => ⟨?_, cell?_heap (g.old h)⟩⟩, Nat.le_refl _, fun b k _ hl => ?_, fun b k n _ h hl _ => ⟨by simp only [hne h]; exact hl, g.old h⟩, fun k _ => Nat.le_refl _⟩
  · simp only [Rd, hne h, hl]; exact ho
  · have : b < Λ.w.heap.size := by
      rcases Nat.lt_or_ge b Λ.w.heap.size with h | h
      · exact h
      · rw [hb b h] at hl; simp at hl
    simp only [hne this]; exact hl

/-- an array's length is set: nothing else -/
theorem Kp.refro {Λ : L} {k n : Nat} (hn : Λ.fro k ≤ n) : Kp Λ { Λ with fro := refro Λ.fro k n } := by
  refine ⟨Fr.refl _ _, Nat.le_refl _, fun _ _ _ h => h, fun b j m _ _ hl _ => ⟨hl, rfl⟩, fun j _ => ?_⟩
  by_cases e : j = k
  · subst e; simp [GB.refro, hn]
  · simp [GB.refro, e]

/-- an array is left: its block stays as it is, its name has grown longer -/
theorem Kp.left {Λ : L} {b k fr n : Nat} (hb : Λ.lab b = .arr k fr) (hn : Λ.fro k < n) :
    Kp Λ { Λ with lab := relab Λ.lab b (.fix (some fr)), fro := GB.refro Λ.fro k n } := by
  refine ⟨⟨rfl, rfl, rfl, Nat.le_refl _, fun c _ f hl => ⟨?_, rfl⟩, fun c _ j f hl o ho => ⟨?_, rfl⟩⟩, Nat.le_refl _, fun c j _ hl => ?_, fun c j m _ _ hl hf => ?_, fun j _ => ?_⟩
  · have : c ≠ b := by rintro rfl; rw [hb] at hl; simp at hl
    simp only [relab_ne this]; exact hl
  · by_cases e : c = b
    · subst e; rw [hb] at hl; simp at hl; obtain ⟨rfl, rfl⟩ := hl; simp [Rd, relab, ho]
    · simp only [Rd, relab_ne e, hl]; exact ho
  · have : c ≠ b := by rintro rfl; rw [hb] at hl; simp at hl
    simp only [relab_ne this]; exact hl
  · by_cases e : j = k
    · subst e; simp [GB.refro] at hf; omega
    · have : c ≠ b := by rintro rfl; rw [hb] at hl; simp at hl; exact e hl.1.symm
      exact ⟨by simp only [relab_ne this]; exact hl, rfl⟩
  · by_cases e : j = k
    · subst e; simp [GB.refro]; omega
    · simp [GB.refro, e]

/-- a block's cells are written: an object's, or behind an array's end -/
structure Wrote (w w' : World) (b : Nat) : Prop where
  os : w'.os = w.os
  tape : w'.tape = w.tape
  output : w'.output = w.output
  size : w'.heap.size = w.heap.size
  old : ∀ c, c ≠ b → w'.heap[c]? = w.heap[c]?

theorem Wrote.setRow (w : World) (b : Nat) (cs : Array Value) : Wrote w (w.setRow b cs) b := ⟨rfl, rfl, rfl, by simp, fun c hc => setRow_other w b c cs hc⟩

theorem Kp.wrote {Λ : L} {w' : World} {b k : Nat} (g : Wrote Λ.w w' b) (hb : Λ.lab b = .obj k) : Kp Λ { Λ with w := w' } := by
  have hne : ∀ {c : Nat} {x : Lab}, Λ.lab c = x → (∀ j, x ≠ .obj j) → c ≠ b := fun h hx e => hx k (by rw [← h, e, hb])
  refine ⟨⟨g.os, g.tape, g.output, by rw [g.size]; exact Nat.le_refl _, fun c _ fr hl => ⟨hl, g.old c (hne hl (by simp))⟩, fun c _ j fr hl o ho => ⟨by simp [Rd, hl, ho], cell?_heap (g.old c (hne hl (by simp)))⟩⟩, Nat.le_refl _, fun _ _ _ h => h, fun c j n _ _ hl _ => ⟨hl, g.old c (hne hl (by simp))⟩, fun _ _ => Nat.le_refl _⟩

theorem Kp.grown {Λ : L} {w' : World} {b k fr fr' n : Nat} (g : Wrote Λ.w w' b) (hb : Λ.lab b = .arr k fr) (hfr : fr ≤ fr') (hc : ∀ o, o < fr → w'.cell? ⟨b, o, none⟩ = Λ.w.cell? ⟨b, o, none⟩) (hn : Λ.fro k < n) :
    Kp Λ { Λ with lab := relab Λ.lab b (.arr k fr'), fro := GB.refro Λ.fro k n, w := w' } := by
  refine ⟨⟨g.os, g.tape, g.output, by rw [g.size]; exact Nat.le_refl _, fun c _ f hl => ?_, fun c _ j f hl o ho => ?_⟩, Nat.le_refl _, fun c j _ hl => ?_, fun c j m _ _ hl hf => ?_, fun j _ => ?_⟩
  · have : c ≠ b := by rintro rfl; rw [hb] at hl; simp at hl
    exact ⟨by simp only [relab_ne this]; exact hl, g.old c this⟩
  · by_cases e : c = b
    · subst e; rw [hb] at hl; simp at hl; obtain ⟨rfl, rfl⟩ := hl
      exact ⟨by simp [Rd, relab]; omega, hc o ho⟩
    · exact ⟨by simp only [Rd, relab_ne e, hl]; exact ho, cell?_heap (g.old c e)⟩
  · have : c ≠ b := by rintro rfl; rw [hb] at hl; simp at hl
    simp only [relab_ne this]; exact hl
  · by_cases e : j = k
    · subst e; simp [GB.refro] at hf; omega
    · have : c ≠ b := by rintro rfl; rw [hb] at hl; simp at hl; exact e hl.1.symm
      exact ⟨by simp only [relab_ne this]; exact hl, g.old c this⟩
  · by_cases e : j = k
    · subst e; simp [GB.refro]; omega
    · simp [GB.refro, e]

/-- the store behind a step -/
theorem RelS.step {Λ Λ' : L} {s s' : S} (h : RelS Λ s) (hk : Kp Λ Λ') (hx : Λ'.nxt = Λ.nxt)
    (hsto : ∀ k o, aget s'.sto k = some o → (aget s.sto k = some o ∧ (∀ b, Λ.lab b = .obj k → Λ'.w.heap[b]? = Λ.w.heap[b]?) ∧ Λ'.fro k = Λ.fro k) ∨ (k < Λ.nxt ∧ RelO Λ' k o))
    (hinj : ∀ b b' k, Λ'.lab b = .obj k → Λ'.lab b' = .obj k → b = b') (hnew : ∀ b, Λ'.w.heap.size ≤ b → Λ'.lab b = .fix none)
    (hbnd : ∀ b k, (Λ'.lab b = .obj k ∨ ∃ n, Λ'.lab b = .arr k n) → k < Λ.nxt) (hfrz : ∀ k, Λ.nxt ≤ k → Λ'.fro k = 0) : RelS Λ' s' := by
  refine ⟨fun k o hko => ?_, hinj, hnew, fun b k hb => by rw [hx]; exact hbnd b k hb, fun k hk' => hfrz k (by rw [← hx]; exact hk')⟩
  rcases hsto k o hko with ⟨h1, h2, h3⟩ | ⟨h1, h2⟩
  · obtain ⟨a1, a2⟩ := h.sto k o h1
    exact ⟨by rw [hx]; exact a1, a2.mono hk a1 h2 h3⟩
  · exact ⟨by rw [hx]; exact h1, h2⟩


end Go.GB
