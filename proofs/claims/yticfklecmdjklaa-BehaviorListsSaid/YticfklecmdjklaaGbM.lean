/-
  GbM: slices made, built and grown.
-/
import Derived.Test.YticfklecmdjklaaGbL
namespace Go.GB
section
variable {P : Program} {o : Oper} {base : Nat} {st : St}

/-- the cells of a list of elements, one after the other -/
theorem flat_get {α : Type} {sz : Nat} : ∀ (xs : List (List α)), (∀ (i : Nat) (c : List α), xs[i]? = some c → c.length = sz) → ∀ (i j : Nat) (c : List α) (x : α), xs[i]? = some c → c[j]? = some x → xs.flatten[i * sz + j]? = some x
  | [], _, i, j, c, x, h, _ => by simp at h
  | d :: r, hs, 0, j, c, x, h, hj => by
    simp at h; subst h
    have hl := hs 0 d rfl
    have hjl := (List.getElem?_eq_some_iff.1 hj).1
    simp only [List.flatten_cons, Nat.zero_mul, Nat.zero_add]
    rw [List.getElem?_append_left hjl]; exact hj
  | d :: r, hs, i + 1, j, c, x, h, hj => by
    have hl := hs 0 d rfl
    have ih := flat_get r (fun i c hc => hs (i + 1) c (by simpa using hc)) i j c x (by simpa using h) hj
    simp only [List.flatten_cons]
    rw [List.getElem?_append_right (by rw [hl, Nat.add_mul]; omega)]
    have : (i + 1) * sz + j - d.length = i * sz + j := by rw [hl, Nat.add_mul]; omega
    rw [this]; exact ih

theorem flat_len {α : Type} {sz : Nat} : ∀ (xs : List (List α)), (∀ (i : Nat) (c : List α), xs[i]? = some c → c.length = sz) → xs.flatten.length = xs.length * sz
  | [], _ => by simp
  | d :: r, hs => by
    have hl := hs 0 d rfl
    have ih := flat_len r (fun i c hc => hs (i + 1) c (by simpa using hc))
    simp only [List.flatten_cons, List.length_append, List.length_cons, ih, hl, Nat.add_mul]; omega

/-- a block whose cells begin with these trees reads as their list -/
theorem rep_block {l : Nat → Lab} {w : World} {b n cap sz : Nat} {arr : Array Value} {e : TypeId} {fz : Nat × Nat} {xs : List (List T)} {vs : List Value} (hb : w.heap[b]? = some (.cells arr e fz)) (hcap : n ≤ cap) (hn : xs.length = n)
    (hsz : ∀ (i : Nat) (c : List T), xs[i]? = some c → c.length = sz) (hr : ∀ o, o < n * sz → Rd l b o) (hv : ∀ (j : Nat) (v : Value), vs[j]? = some v → arr[j]? = some v) (hvl : vs.length = n * sz)
    (hx : ∀ (j : Nat) (v : Value) (x : T), vs[j]? = some v → xs.flatten[j]? = some x → RepT l w v x) : RepT l w (.slice (some ⟨b, 0, none⟩) n cap) (.lst xs) := by
  subst hn
  have hlt : ∀ (i j : Nat) (c : List T) (x : T), xs[i]? = some c → c[j]? = some x → i * sz + j < vs.length := by
    intro i j c x h1 h2
    have e1 := flat_get xs hsz i j c x h1 h2
    have := (List.getElem?_eq_some_iff.1 e1).1
    rw [flat_len xs hsz] at this; omega
  refine .lst _ cap sz xs b 0 (fun i j => vs.getD (i * sz + j) undef) hcap hsz (fun _ _ _ _ _ _ => rfl) ?_ ?_ ?_
  · intro i j c x h1 h2
    exact hr _ (by have := hlt i j c x h1 h2; omega)
  · intro i j c x h1 h2
    have h3 := hlt i j c x h1 h2
    rw [cell_of_row w b _ arr e fz hb, Nat.zero_add]
    rw [hv _ (vs[i * sz + j]) (by simp [h3])]
    simp [h3]
  · intro i j c x h1 h2
    have h3 := hlt i j c x h1 h2
    exact hx (i * sz + j) _ x (by simp [h3]) (flat_get xs hsz i j c x h1 h2)

/-- the cells of a slice that reads as a list -/
theorem RepT.cells {l : Nat → Lab} {w : World} {v : Value} {sz : Nat} {xs : List (List T)} (h : RepT l w v (.lst xs)) (hsz : ∀ (i : Nat) (c : List T), xs[i]? = some c → c.length = sz) (h0 : 0 < xs.length) (hs0 : 0 < sz) :
    ∃ (b off cap : Nat) (vs : List Value), v = .slice (some ⟨b, off, none⟩) xs.length cap ∧ xs.length ≤ cap ∧ vs.length = xs.length * sz ∧ (∀ (j : Nat) (u : Value), vs[j]? = some u → w.cell? ⟨b, off + j, none⟩ = some u ∧ Rd l b (off + j)) ∧
      (∀ (j : Nat) (u : Value) (x : T), vs[j]? = some u → xs.flatten[j]? = some x → RepT l w u x) := by
  cases h with
  | lst a cap sz' _ b off vf hcap hsz' ha hr hc hrep =>
    have hc0 : xs[0]? = some xs[0] := by simp [h0]
    have e0 : sz' = sz := by rw [← hsz' 0 _ hc0, ← hsz 0 _ hc0]
    subst e0
    have hl0 : 0 < xs[0].length := by rw [hsz 0 _ hc0]; exact hs0
    have ea := ha 0 0 xs[0] xs[0][0] hc0 (by simp [hl0])
    subst ea
    have hdm : ∀ j, j < xs.length * sz' → j / sz' < xs.length ∧ j % sz' < sz' ∧ j / sz' * sz' + j % sz' = j := by
      intro j hj
      refine ⟨Nat.div_lt_of_lt_mul (by rwa [Nat.mul_comm] at hj), Nat.mod_lt _ hs0, by rw [Nat.mul_comm]; exact Nat.div_add_mod j sz'⟩
    have hat : ∀ j, (hj : j < xs.length * sz') → ∃ c x, xs[j / sz']? = some c ∧ c[j % sz']? = some x := by
      intro j hj
      obtain ⟨d1, d2, d3⟩ := hdm j hj
      refine ⟨xs[j / sz'], xs[j / sz'][j % sz']'(by rw [hsz (j / sz') _ (by simp [d1])]; exact d2), by simp [d1], by simp⟩
    refine ⟨b, off, cap, (List.range (xs.length * sz')).map fun j => vf (j / sz') (j % sz'), rfl, hcap, by simp, fun j u hu => ?_, fun j u x hu hx => ?_⟩
    · have hj : j < xs.length * sz' := by
        have := (List.getElem?_eq_some_iff.1 hu).1
        simpa using this
      rw [List.getElem?_map, List.getElem?_range hj] at hu
      simp at hu; subst hu
      obtain ⟨c, x, e1, e2⟩ := hat j hj
      have e3 := hc _ _ c x e1 e2
      have e4 := hr _ _ c x e1 e2
      rw [Nat.add_assoc, (hdm j hj).2.2] at e3 e4
      exact ⟨e3, e4⟩
    · have hj : j < xs.length * sz' := by
        have := (List.getElem?_eq_some_iff.1 hx).1
        rwa [flat_len xs hsz] at this
      rw [List.getElem?_map, List.getElem?_range hj] at hu
      simp at hu; subst hu
      obtain ⟨c, y, e1, e2⟩ := hat j hj
      have e3 := flat_get xs hsz _ _ c y e1 e2
      rw [(hdm j hj).2.2, hx] at e3
      simp at e3; subst e3
      exact hrep _ _ c x e1 e2

/-- a new block for an array; its old block, if any, has been left -/
theorem new_arr {Λ Λ1 : L} {s : S} {w' : World} {ob : Obj} {k n fr : Nat} (h : RelS Λ s) (h1 : Kp Λ Λ1) (hw : Λ1.w = Λ.w) (hx : Λ1.nxt = Λ.nxt) (hf : Λ1.fro = refro Λ.fro k n)
    (hlab : ∀ b, Λ1.lab b = Λ.lab b ∨ (∃ m fr, Λ.lab b = .arr k m ∧ Λ1.lab b = .fix fr)) (g : Grew Λ.w w' ob) (hk : k < Λ.nxt) {Λ' : L} (hΛ : Λ' = { lab := relab Λ1.lab Λ.w.heap.size (.arr k fr), fro := Λ1.fro, nxt := Λ.nxt, w := w' }) :
    Kp Λ Λ' ∧ RelS Λ' { s with sto := aset s.sto k (.arr n) } ∧ ∀ j, Free Λ j → j ≠ k → Free Λ' j := by
  subst hΛ
  have hnew1 : ∀ b, Λ.w.heap.size ≤ b → Λ1.lab b = .fix none := by
    intro b hb
    rcases hlab b with e | ⟨m, f, e, _⟩
    · rw [e]; exact h.new b hb
    · rw [h.new b hb] at e; simp at e
  have hkp : Kp Λ { lab := relab Λ1.lab Λ.w.heap.size (.arr k fr), fro := Λ1.fro, nxt := Λ.nxt, w := w' } := by
    have h2 := Kp.new (Λ := Λ1) (w' := w') (o := ob) (by rw [hw]; exact g) (by rw [hw]; exact hnew1) (.arr k fr)
    have h3 := h1.trans h2
    rw [hw, hx] at h3
    exact h3
  have hobj : ∀ b j, relab Λ1.lab Λ.w.heap.size (.arr k fr) b = .obj j → Λ.lab b = .obj j := by
    intro b j hb
    by_cases e : b = Λ.w.heap.size
    · subst e; rw [relab_same] at hb; simp at hb
    · rw [relab_ne e] at hb
      rcases hlab b with e | ⟨m, f, _, e⟩
      · rw [← e]; exact hb
      · rw [e] at hb; simp at hb
  have harr : ∀ b j m, relab Λ1.lab Λ.w.heap.size (.arr k fr) b = .arr j m → j = k ∨ Λ.lab b = .arr j m := by
    intro b j m hb
    by_cases e : b = Λ.w.heap.size
    · subst e; rw [relab_same] at hb; simp at hb; exact .inl hb.1.symm
    · rw [relab_ne e] at hb
      rcases hlab b with e | ⟨m, f, _, e⟩
      · rw [e] at hb; exact .inr hb
      · rw [e] at hb; simp at hb
  refine ⟨hkp, h.step hkp rfl (fun j ob' hj => ?_) (fun b b' j e1 e2 => h.inj b b' j (hobj b j e1) (hobj b' j e2)) (fun b hb => ?_) (fun b j hb => ?_) (fun j hj => ?_), fun j hj hne => ⟨fun b hb => hj.obj b (hobj b j hb), fun b m hb => ?_, ?_⟩⟩
  · simp only at hj
    rw [aget_aset] at hj
    split at hj
    · rename_i e; subst e; simp at hj; subst hj
      exact .inr ⟨hk, by simp only [RelO, hf, refro_same]⟩
    · rename_i hne
      refine .inl ⟨hj, fun b hb => g.old ?_, by simp only [hf]; exact refro_ne (Ne.symm hne)⟩
      rcases Nat.lt_or_ge b Λ.w.heap.size with h' | h'
      · exact h'
      · rw [h.new b h'] at hb; simp at hb
  · simp only at hb ⊢
    rw [g.size] at hb
    rw [relab_ne (by omega)]; exact hnew1 b (by omega)
  · rcases hb with hb | ⟨m, hb⟩
    · exact h.bnd b j (.inl (hobj b j hb))
    · rcases harr b j m hb with rfl | hb'
      · exact hk
      · exact h.bnd b j (.inr ⟨m, hb'⟩)
  · simp only [hf]; rw [refro_ne (by omega)]; exact h.frz j hj
  · rcases harr b j m hb with rfl | hb'
    · exact hne rfl
    · exact hj.arr b m hb'
  · simp only [hf]; rw [refro_ne hne]; exact hj.fro

/-- an array grows in its block -/
theorem same_arr {Λ : L} {s : S} {w' : World} {b k n fr fr' : Nat} (h : RelS Λ s) (g : Wrote Λ.w w' b) (hb : Λ.lab b = .arr k fr) (hfr : fr ≤ fr') (hc : ∀ o, o < fr → w'.cell? ⟨b, o, none⟩ = Λ.w.cell? ⟨b, o, none⟩) (hn : Λ.fro k < n)
    {Λ' : L} (hΛ : Λ' = { Λ with lab := relab Λ.lab b (.arr k fr'), fro := refro Λ.fro k n, w := w' }) :
    Kp Λ Λ' ∧ RelS Λ' { s with sto := aset s.sto k (.arr n) } ∧ ∀ j, Free Λ j → Free Λ' j := by
  subst hΛ
  have hkp := Kp.grown g hb hfr hc hn
  have hk : k < Λ.nxt := h.bnd b k (.inr ⟨_, hb⟩)
  have hobj : ∀ c j, relab Λ.lab b (.arr k fr') c = .obj j → Λ.lab c = .obj j ∧ c ≠ b := by
    intro c j hc
    by_cases e : c = b
    · subst e; rw [relab_same] at hc; simp at hc
    · rw [relab_ne e] at hc; exact ⟨hc, e⟩
  have harr : ∀ c j m, relab Λ.lab b (.arr k fr') c = .arr j m → ∃ m', Λ.lab c = .arr j m' := by
    intro c j m hc
    by_cases e : c = b
    · subst e; rw [relab_same] at hc; simp at hc; rw [← hc.1]; exact ⟨_, hb⟩
    · rw [relab_ne e] at hc; exact ⟨_, hc⟩
  refine ⟨hkp, h.step hkp rfl (fun j ob' hj => ?_) (fun c c' j e1 e2 => h.inj c c' j (hobj c j e1).1 (hobj c' j e2).1) (fun c hcc => ?_) (fun c j hc => ?_) (fun j hj => ?_), fun j hj => ⟨fun c hc => hj.obj c (hobj c j hc).1, fun c m hc => ?_, ?_⟩⟩
  · simp only at hj
    rw [aget_aset] at hj
    split at hj
    · rename_i e; subst e; simp at hj; subst hj
      exact .inr ⟨hk, by simp only [RelO, refro_same]⟩
    · rename_i hne
      refine .inl ⟨hj, fun c hcc => g.old c ?_, refro_ne (Ne.symm hne)⟩
      intro e; rw [e, hb] at hcc; simp at hcc
  · simp only at hcc ⊢
    rw [g.size] at hcc
    have : c ≠ b := by intro e; rw [e] at hcc; rw [h.new _ hcc] at hb; simp at hb
    rw [relab_ne this]; exact h.new c hcc
  · rcases hc with hc | ⟨m, hc⟩
    · exact h.bnd c j (.inl (hobj c j hc).1)
    · obtain ⟨m', e⟩ := harr c j m hc; exact h.bnd c j (.inr ⟨m', e⟩)
  · show refro Λ.fro k n j = 0
    rw [refro_ne (by omega)]; exact h.frz j hj
  · obtain ⟨m', e⟩ := harr c j m hc; exact hj.arr c m' e
  · have : j ≠ k := by rintro rfl; exact hj.arr b fr hb
    show refro Λ.fro k n j = 0
    rw [refro_ne this]; exact hj.fro

end
end Go.GB
