/-
  GbL: the operations that change memory: what the evaluation says is what the model does.
-/
import Derived.Test.YticfklecmdjklaaGbK
namespace Go.GB

/-- What is to be shown of an operation. -/
def OSound (P : Program) (o : Oper) (base : Nat) (st : St) (out : Out) : Prop :=
  ∀ (C : Ctx) (Λ : L) (a : Act) (next : Act → World → Prop) (Q : Exit → Act → World → Prop), C.P = P → Rel C Λ st a → base + out.n ≤ Λ.nxt → (∀ k, base ≤ k → k < base + out.n → k < Λ.nxt ∧ Free Λ k ∧ aget st.s.sto k = none) →
    (∀ v Λ', Kp Λ Λ' → Λ'.nxt = Λ.nxt → RelS Λ' (st.s.app out) → RelV Λ' v out.v → (∀ k, Free Λ k → aget st.s.sto k = none → (base + out.n ≤ k ∨ (k < base ∧ out.rd = false)) → Free Λ' k) → next (a.put o.dst v) Λ'.w) →
    o.wp P a Λ.w next Q

section
variable {P : Program} {o : Oper} {base : Nat} {st : St}

theorem S.app_nil {s : S} {v : V} {r : Bool} : s.app { v := v, rd := r } = s := rfl

theorem OSound.of_E {x : V} {r : Bool} (h : ESound P o true st x) : OSound P o base st { v := x, rd := r } := by
  intro C Λ a next Q hC hr _ _ hn
  obtain ⟨v, h1, h2⟩ := h C Λ a hC rfl hr
  unfold Oper.wp
  rw [h1]
  exact hn v Λ (Kp.refl _) rfl hr.s h2 (fun _ h _ _ => h)

theorem RelV.oneCell {Λ : L} {v : Value} {x : V} (h : RelV Λ v x) (hx : x.cellOk = true) : v.oneCell' = true := by
  cases h with
  | t h => cases h <;> rfl
  | nils => rfl
  | own h _ _ _ _ => cases h; rfl
  | slc _ _ _ => rfl
  | agg _ _ => simp [V.cellOk] at hx
  | tup _ _ => simp [V.cellOk] at hx
  | ptr _ _ => rfl
  | mp _ _ => rfl
  | fn _ _ => rfl
  | gd _ _ => simp [V.cellOk] at hx
  | top => simp [V.cellOk] at hx

theorem setAt_get : ∀ (us : List V) (cs : List V) (off j : Nat), off + us.length ≤ cs.length → (setAt cs off us)[j]? = if off ≤ j ∧ j < off + us.length then us[j - off]? else cs[j]?
  | [], cs, off, j, _ => by simp [setAt]; omega
  | u :: us, cs, off, j, h => by
    simp only [setAt]
    rw [setAt_get us (cs.set off u) (off + 1) j (by simp at h ⊢; omega)]
    simp only [List.length_cons] at h ⊢
    by_cases h1 : off + 1 ≤ j ∧ j < off + 1 + us.length
    · rw [if_pos h1, if_pos (by omega)]
      have : j - off = (j - (off + 1)) + 1 := by omega
      rw [this]; simp
    · rw [if_neg h1, List.getElem?_set]
      by_cases h2 : off = j
      · subst h2; rw [if_pos rfl, if_pos (by omega), if_pos (by omega)]; simp
      · rw [if_neg h2, if_neg (by omega)]

theorem o_store {t : TypeId} {x y : Operand} {x' y' : Ar} {n k off : Nat} {cs vs : List V} (ho : o.op = .store t x y) (hn : szOf P t = some n) (hx : opA x = some x') (hy : opA y = some y')
    (hxv : x'.u st = .ptr k off) (hk : aget st.s.sto k = some (.cells cs)) (hvs : (y'.u st).parts = some vs) (hl : vs.length = n ∧ off + n ≤ cs.length) (hok : vs.all V.cellOk = true) :
    OSound P o base st { v := .top, ob := [(k, .cells (setAt cs off vs))], rd := true } := by
  intro C Λ a next Q hC hr _ _ hnext
  have hx1 := hr.opu hx
  have hy1 := (hr.opu hy).parts hvs
  rw [hxv] at hx1
  generalize hv : a.eval x = v at hx1
  cases hx1 with
  | @ptr b _ _ hkn hb =>
    obtain ⟨arr, e, h2, h3, h4⟩ := hr.s.objCells hk hb
    have hone : ∀ u ∈ (a.eval y).cells.toList, u.oneCell' = true := by
      intro u hu
      obtain ⟨j, hj⟩ := List.mem_iff_getElem?.1 hu
      have hj' : (a.eval y).cells[j]? = some u := by simpa using hj
      have hlt : j < vs.length := by rw [← hy1.1]; exact (Array.getElem?_eq_some_iff.1 hj').1
      have := hy1.2 j u vs[j] hj' (by simp [hlt])
      exact this.oneCell (by rw [List.all_eq_true] at hok; exact hok _ (List.getElem_mem hlt))
    have hsz : (a.eval y).cells.size = n := by rw [hy1.1]; exact hl.1
    have hst := run_storeCells_at P b off e (a.eval y).cells.toList 0 arr Λ.w h2 (by simp [hsz]; omega) hone
    simp only [Nat.add_zero] at hst
    have hrun : (execOp a.eval o).run P Λ.w = .ok .skip (Λ.w.setRow b (arr.toList.take off ++ (a.eval y).cells.toList ++ arr.toList.drop (off + (a.eval y).cells.toList.length)).toArray) := by
      simp only [execOp, ho, hv]
      simp [Instr.storeAt, Instr.sureAddr, storeVar, szOf_run hn, hsz, hst]
    unfold Oper.wp
    rw [hrun]
    have hkp : Kp Λ { Λ with w := Λ.w.setRow b (arr.toList.take off ++ (a.eval y).cells.toList ++ arr.toList.drop (off + (a.eval y).cells.toList.length)).toArray } := Kp.wrote (Wrote.setRow _ _ _) hb
    refine hnext undef _ hkp rfl ?_ .top (fun k h _ _ => ⟨h.obj, h.arr, h.fro⟩)
    refine hr.s.step hkp rfl (fun j ob hj => ?_) hr.s.inj (fun c hc => hr.s.new c (by simpa using hc)) hr.s.bnd hr.s.frz
    simp only [S.app, asets] at hj
    rw [aget_aset] at hj
    split at hj
    · rename_i e; subst e
      simp at hj; subst hj
      refine .inr ⟨hkn, b, _, e, hb, setRow_heap _ _ _ _ _ _ h2, ?_, ?_⟩
      · simp [setAt_length, hsz]; omega
      · intro j u c hu hc
        rw [setAt_get _ _ _ _ (by omega)] at hc
        have hu' : (arr.toList.take off ++ (a.eval y).cells.toList ++ arr.toList.drop (off + (a.eval y).cells.toList.length))[j]? = some u := by simpa using hu
        have hln : (a.eval y).cells.toList.length = n := by simpa using hsz
        have hlt : (arr.toList.take off).length = off := by simp; omega
        split at hc
        · rename_i hj
          rw [List.append_assoc, List.getElem?_append_right (by omega), hlt, List.getElem?_append_left (by omega)] at hu'
          exact (hy1.2 _ u c (by simpa using hu') hc).mono hkp
        · rename_i hj
          refine (h4 j u c ?_ hc).mono hkp
          by_cases hj1 : j < off
          · rw [List.append_assoc, List.getElem?_append_left (by omega), List.getElem?_take, if_pos hj1] at hu'
            simpa using hu'
          · rw [List.getElem?_append_right (by simp; omega), List.getElem?_drop] at hu'
            have : off + (a.eval y).cells.toList.length + (j - (arr.toList.take off ++ (a.eval y).cells.toList).length) = j := by simp; omega
            rw [this] at hu'
            simpa using hu'
    · rename_i hne
      refine .inl ⟨hj, fun c hc => ?_, rfl⟩
      have : c ≠ b := by rintro rfl; rw [hb] at hc; simp at hc; exact hne hc
      exact setRow_other _ _ _ _ this

/-- a new block with a free name -/
theorem new_obj {Λ : L} {s : S} {w' : World} {ob : Obj} {k : Nat} {ao : AObj} (h : RelS Λ s) (g : Grew Λ.w w' ob) (hk : k < Λ.nxt) (hf : Free Λ k) {Λ' : L} (hΛ : Λ' = { Λ with lab := relab Λ.lab Λ.w.heap.size (.obj k), w := w' })
    (ho : RelO Λ' k ao) :
    Kp Λ Λ' ∧ RelS Λ' { s with sto := aset s.sto k ao } ∧ ∀ j, Free Λ j → j ≠ k → Free Λ' j := by
  subst hΛ
  have hkp := Kp.new g h.new (.obj k)
  refine ⟨hkp, h.step hkp rfl (fun j ob' hj => ?_) (fun b b' j h1 h2 => ?_) (fun b hb => ?_) (fun b j hb => ?_) h.frz, fun j hj hne => ⟨fun b hb => ?_, fun b n hb => ?_, hj.fro⟩⟩
  · simp only at hj
    rw [aget_aset] at hj
    split at hj
    · rename_i e; subst e; simp at hj; subst hj; exact .inr ⟨hk, ho⟩
    · refine .inl ⟨hj, fun b hb => g.old ?_, rfl⟩
      rcases Nat.lt_or_ge b Λ.w.heap.size with h' | h'
      · exact h'
      · rw [h.new b h'] at hb; simp at hb
  · by_cases e1 : b = Λ.w.heap.size
    · by_cases e2 : b' = Λ.w.heap.size
      · omega
      · simp only [relab_ne e2] at h2
        subst e1; simp only [relab_same] at h1
        simp at h1; subst h1
        exact absurd h2 (hf.obj b')
    · simp only [relab_ne e1] at h1
      by_cases e2 : b' = Λ.w.heap.size
      · subst e2; simp only [relab_same] at h2; simp at h2; subst h2; exact absurd h1 (hf.obj b)
      · simp only [relab_ne e2] at h2; exact h.inj b b' j h1 h2
  · simp only at hb ⊢
    rw [g.size] at hb
    rw [relab_ne (by omega)]; exact h.new b (by omega)
  · by_cases e : b = Λ.w.heap.size
    · subst e; simp only [relab_same] at hb; rcases hb with hb | ⟨n, hb⟩ <;> simp at hb; omega
    · simp only [relab_ne e] at hb; exact h.bnd b j hb
  · by_cases e : b = Λ.w.heap.size
    · subst e; simp only [relab_same] at hb; simp at hb; exact hne hb.symm
    · simp only [relab_ne e] at hb; exact hj.obj b hb
  · by_cases e : b = Λ.w.heap.size
    · subst e; simp only [relab_same] at hb; simp at hb
    · simp only [relab_ne e] at hb; exact hj.arr b n hb

theorem o_box {t : TypeId} {x : Operand} {x' : Ar} {n : Nat} {vs : List V} (ho : o.op = .box t x) (hx : opA x = some x') (hvs : (x'.u st).parts = some vs) :
    OSound P o base st { v := .ptr base 0, ob := [(base, .cells vs)], n := n + 1 } := by
  intro C Λ a next Q hC hr hle hfree hnext
  have hx1 := (hr.opu hx).parts hvs
  have hrun : (execOp a.eval o).run P Λ.w = .ok (.value (.pointer (some ⟨Λ.w.heap.size, 0, none⟩))) (Λ.w.alloc (.cells (a.eval x).cells t)) := by
    simp only [execOp, ho]
    simp [Instr.box, newVar, newRow]
  unfold Oper.wp
  rw [hrun]
  obtain ⟨hb1, hb2, hb3⟩ := hfree base (Nat.le_refl _) (by simp)
  have g := Grew.alloc Λ.w (.cells (a.eval x).cells t)
  have hkp := Kp.new g hr.s.new (.obj base)
  obtain ⟨k1, k2, k3⟩ := new_obj hr.s g hb1 hb2 rfl (ao := .cells vs) ⟨Λ.w.heap.size, _, _, by simp [relab_same], g.top, hx1.1, fun j v c e1 e2 => (hx1.2 j v c e1 e2).mono hkp⟩
  exact hnext _ _ k1 rfl k2 (.ptr hb1 (by simp [relab_same])) (fun k hk _ hlt => k3 k hk (by simp at hlt; omega))

theorem o_alloc {t : TypeId} {zs : List V} (ho : o.op = .alloc t) (hz : zerosOf P t = some zs) : OSound P o base st { v := .ptr base 0, ob := [(base, .cells zs)], n := 1 } := by
  intro C Λ a next Q hC hr hle hfree hnext
  obtain ⟨i, z, hi, hz1, hlen, hok⟩ := zerosOf_spec hz
  have hrun : (execOp a.eval o).run P Λ.w = .ok (.value (.pointer (some ⟨Λ.w.heap.size, 0, none⟩))) (Λ.w.alloc (.cells z.cells t)) := by
    simp only [execOp, ho]
    simp [Instr.alloc, zeroValue, typeInfo, hi, hz1, newVar, newRow]
  unfold Oper.wp
  rw [hrun]
  obtain ⟨hb1, hb2, hb3⟩ := hfree base (Nat.le_refl _) (by simp)
  have g := Grew.alloc Λ.w (.cells z.cells t)
  have hrc := fun Λ' : L => zeros_relC (Λ := Λ') hok
  obtain ⟨k1, k2, k3⟩ := new_obj hr.s g hb1 hb2 rfl (ao := .cells zs) ⟨Λ.w.heap.size, _, _, by simp [relab_same], g.top, (hrc Λ).1, fun j v c e1 e2 => (hrc _).2 j v c e1 e2⟩
  exact hnext _ _ k1 rfl k2 (.ptr hb1 (by simp [relab_same])) (fun k hk _ hlt => k3 k hk (by simp at hlt; omega))

end
end Go.GB
