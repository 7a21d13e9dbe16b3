/-
  YtpakhiccblfcmaaP2: lemmas of this proof (part 2). No conditions.
-/
import Derived.Test.YtpakhiccblfcmaaP1

/-
  GbOg: stores into growing arrays and into objects of families, new objects of families.
-/
namespace Go.GB
section
variable {P : Program} {o : Oper} {base : Nat} {st : St}

theorem row_set {Λ : L} {arr : Array Value} {cs vs : List V} {us : List Value} {off : Nat} (hul : us.length = vs.length) (hlc : off + vs.length ≤ cs.length) (hca : cs.length ≤ arr.size)
    (h4 : ∀ (j : Nat) (v : Value) (c : V), arr[j]? = some v → cs[j]? = some c → RelV Λ v c) (hy : ∀ (j : Nat) (v : Value) (c : V), us[j]? = some v → vs[j]? = some c → RelV Λ v c) :
    ∀ (j : Nat) (u : Value) (c : V), (arr.toList.take off ++ us ++ arr.toList.drop (off + us.length)).toArray[j]? = some u → (setAt cs off vs)[j]? = some c → RelV Λ u c := by
  intro j u c hu hc
  rw [setAt_get _ _ _ _ hlc] at hc
  have hu' : (arr.toList.take off ++ us ++ arr.toList.drop (off + us.length))[j]? = some u := by simpa using hu
  have hlt : (arr.toList.take off).length = off := by simp; omega
  split at hc
  · rename_i hj
    rw [List.append_assoc, List.getElem?_append_right (by omega), hlt, List.getElem?_append_left (by omega)] at hu'
    exact hy _ u c hu' hc
  · rename_i hj
    refine h4 j u c ?_ hc
    by_cases hj1 : j < off
    · rw [List.append_assoc, List.getElem?_append_left (by omega), List.getElem?_take, if_pos hj1] at hu'
      simpa using hu'
    · rw [List.getElem?_append_right (by simp; omega), List.getElem?_drop] at hu'
      have : off + us.length + (j - (arr.toList.take off ++ us).length) = j := by simp; omega
      rw [this] at hu'
      simpa using hu'

/-- a store into a block of cells -/
theorem store_run {t : TypeId} {x y : Operand} {y' : Ar} {n off b : Nat} {vs : List V} {a : Act} {C : Ctx} {Λ : L} {arr : Array Value} {e : TypeId} (hr : Rel C Λ st a) (ho : o.op = .store t x y) (hn : szOf P t = some n) (hy : opA y = some y')
    (hv : a.eval x = .pointer (some ⟨b, off, none⟩)) (hvs : (y'.u st).parts = some vs) (hl : vs.length = n) (hok : vs.all V.cellOk = true) (h2 : Λ.w.heap[b]? = some (.cells arr e (0, 0))) (hsz : off + n ≤ arr.size) :
    ∃ us : List Value, us.length = vs.length ∧ (∀ (j : Nat) (v : Value) (c : V), us[j]? = some v → vs[j]? = some c → RelV Λ v c) ∧
      (execOp a.eval o).run P Λ.w = .ok .skip (Λ.w.setRow b (arr.toList.take off ++ us ++ arr.toList.drop (off + us.length)).toArray) := by
  have hy1 := (hr.opu hy).parts hvs
  have hone : ∀ u ∈ (a.eval y).cells.toList, u.oneCell' = true := by
    intro u hu
    obtain ⟨j, hj⟩ := List.mem_iff_getElem?.1 hu
    have hj' : (a.eval y).cells[j]? = some u := by simpa using hj
    have hlt : j < vs.length := by rw [← hy1.1]; exact (Array.getElem?_eq_some_iff.1 hj').1
    have := hy1.2 j u vs[j] hj' (by simp [hlt])
    exact this.oneCell (by rw [List.all_eq_true] at hok; exact hok _ (List.getElem_mem hlt))
  have hs : (a.eval y).cells.size = n := by rw [hy1.1]; exact hl
  refine ⟨(a.eval y).cells.toList, by simpa using hy1.1, fun j v c e1 e2 => hy1.2 j v c (by simpa using e1) e2, ?_⟩
  have hst := run_storeCells_at P b off e (a.eval y).cells.toList 0 arr Λ.w h2 (by simp [hs]; omega) hone
  simp only [Nat.add_zero] at hst
  simp only [execOp, ho, hv]
  simp [Instr.storeAt, Instr.sureAddr, storeVar, szOf_run hn, hs, hst]

theorem rowSize_setRow {w : World} {b : Nat} {arr A : Array Value} {e : TypeId} (h : w.heap[b]? = some (.cells arr e (0, 0))) (hs : A.size = arr.size) : ∀ N, rowSize w b = some N → rowSize (w.setRow b A) b = some N := by
  intro N hN
  unfold rowSize at hN ⊢
  rw [setRow_heap _ _ _ _ _ _ h]
  rw [h] at hN
  simp at hN ⊢; omega

theorem o_stG {t : TypeId} {x y : Operand} {x' y' : Ar} {n k ver off w : Nat} {cs vs : List V} (ho : o.op = .store t x y) (hn : szOf P t = some n) (hx : opA x = some x') (hy : opA y = some y')
    (hxv : x'.u st = .gpt k ver off) (hk : aget st.s.sto k = some (.gro w cs)) (hw : ver = w) (hvs : (y'.u st).parts = some vs) (hl : vs.length = n) (hle : off + n ≤ cs.length) (hok : vs.all V.cellOk = true) :
    OSound P o base st { v := .top, ob := [(k, .gro w (setAt cs off vs))], rd := true } := by
  intro C Λ a next Q hC hr _ _ hnext
  have hx1 := hr.opu hx
  rw [hxv] at hx1
  generalize hv : a.eval x = v at hx1
  cases hx1 with
  | gpt _ hkn _ g3 =>
    have hwv := (hr.s.sto k _ hk).2.1
    obtain ⟨b, rfl, g4⟩ := g3 (hw.trans hwv.symm)
    obtain ⟨arr, e, h2, h3, h4⟩ := hr.s.gCells hk g4
    obtain ⟨us, e1, e2, hrun⟩ := store_run hr ho hn hy hv hvs hl hok h2 (by omega)
    unfold Oper.wp
    rw [hrun]
    obtain ⟨i, hb, hb'⟩ := g4
    have hrow := row_set (Λ := Λ) (off := off) e1 (by omega) h3 h4 e2
    have hA : (arr.toList.take off ++ us ++ arr.toList.drop (off + us.length)).toArray.size = arr.size := by simp; omega
    generalize (arr.toList.take off ++ us ++ arr.toList.drop (off + us.length)).toArray = A at hrow hA ⊢
    have F := FStep.write hr.s (Wrote.setRow Λ.w b A) hb (rowSize_setRow h2 hA)
    have hkp := F.kp hr.s
    refine hnext undef _ hkp rfl (F.rels hr.s hkn ⟨hwv, .inr ⟨b, A, e, ⟨i, hb, hb'⟩, setRow_heap _ _ _ _ _ _ h2, by rw [setAt_length, hA]; exact h3, fun j v c q1 q2 => (hrow j v c q1 q2).mono hkp⟩⟩) .top (fun j hj hn _ => F.free hj ?_)
    rintro rfl; rw [hk] at hn; cases hn

theorem o_stF {t : TypeId} {x y : Operand} {x' y' : Ar} {n k i off : Nat} {os : List (List V)} {cs vs : List V} (ho : o.op = .store t x y) (hn : szOf P t = some n) (hx : opA x = some x') (hy : opA y = some y')
    (hxv : x'.u st = .fpt k i off) (hk : aget st.s.sto k = some (.fobs os)) (hi : os[i]? = some cs) (hvs : (y'.u st).parts = some vs) (hl : vs.length = n) (hle : off + n ≤ cs.length) (hok : vs.all V.cellOk = true) :
    OSound P o base st { v := .top, ob := [(k, .fobs (os.set i (setAt cs off vs)))], rd := true } := by
  intro C Λ a next Q hC hr _ _ hnext
  have hx1 := hr.opu hx
  rw [hxv] at hx1
  generalize hv : a.eval x = v at hx1
  cases hx1 with
  | @fpt b _ _ _ hkn hb =>
    obtain ⟨arr, e, h2, h3, h4⟩ := hr.s.fCells hk hi hb
    obtain ⟨us, e1, e2, hrun⟩ := store_run hr ho hn hy hv hvs hl hok h2 (by omega)
    unfold Oper.wp
    rw [hrun]
    have hrow := row_set (Λ := Λ) (off := off) e1 (by omega) (by omega) h4 e2
    have hA : (arr.toList.take off ++ us ++ arr.toList.drop (off + us.length)).toArray.size = arr.size := by simp; omega
    generalize (arr.toList.take off ++ us ++ arr.toList.drop (off + us.length)).toArray = A at hrow hA ⊢
    have F := FStep.write hr.s (Wrote.setRow Λ.w b A) hb (rowSize_setRow h2 hA)
    have hkp := F.kp hr.s
    obtain ⟨g1, g2⟩ := (hr.s.sto k _ hk).2
    have hil : i < os.length := (List.getElem?_eq_some_iff.1 hi).1
    refine hnext undef _ hkp rfl (F.rels hr.s hkn ⟨fun b' i' h' => by rw [List.length_set]; exact g1 b' i' h', fun i' cs' h' => ?_⟩) .top (fun j hj hn _ => F.free hj ?_)
    · rw [List.getElem?_set] at h'
      split at h'
      · rename_i e'; subst e'
        simp at h'; obtain ⟨_, rfl⟩ := h'
        exact ⟨b, A, e, hb, setRow_heap _ _ _ _ _ _ h2, by rw [setAt_length, hA]; exact h3, fun j v c q1 q2 => (hrow j v c q1 q2).mono hkp⟩
      · rename_i e'
        obtain ⟨b', arr', et, f1, f2, f3, f4⟩ := g2 i' cs' h'
        refine ⟨b', arr', et, f1, ?_, f3, fun j v c q1 q2 => (f4 j v c q1 q2).mono hkp⟩
        have : b' ≠ b := by rintro rfl; rw [hb] at f1; simp at f1; exact e' f1
        rw [← f2]; exact setRow_other _ _ _ _ this
    · rintro rfl; rw [hk] at hn; cases hn

/-- a new object of a family -/
theorem new_fob {Λ : L} {s : S} {w' : World} {arr : Array Value} {e : TypeId} {k : Nat} {os : List (List V)} {vs : List V} (h : RelS Λ s) (g : Grew Λ.w w' (.cells arr e)) (hk : aget s.sto k = some (.fobs os)) (hs : arr.size = vs.length)
    (hv : ∀ (Λ' : L), Kp Λ Λ' → ∀ (j : Nat) (v : Value) (c : V), arr[j]? = some v → vs[j]? = some c → RelV Λ' v c) :
    ∃ Λ', Λ'.w = w' ∧ Λ'.nxt = Λ.nxt ∧ Kp Λ Λ' ∧ RelS Λ' { s with sto := aset s.sto k (.fobs (os ++ [vs])) } ∧ RelV Λ' (.pointer (some ⟨Λ.w.heap.size, 0, none⟩)) (.fpt k os.length 0) ∧ ∀ j, Free Λ j → j ≠ k → Free Λ' j := by
  obtain ⟨hkn, g1, g2⟩ := h.sto k _ hk
  have F := FStep.grow (i := os.length) (n := Λ.frf k 0 + 1) h g (fun b hb => by have := g1 b _ hb; omega) (by omega)
  have hkp := F.kp h
  refine ⟨{ Λ with lab := relab Λ.lab Λ.w.heap.size (.fob k os.length), w := w', frf := refrf Λ.frf k 0 (Λ.frf k 0 + 1) }, rfl, rfl, hkp, F.rels (o := .fobs (os ++ [vs])) h hkn ⟨fun b i hb => ?_, fun i cs hi => ?_⟩, .fpt hkn (by simp [relab_same]), fun j hj hne => F.free hj hne⟩
  · simp only at hb
    by_cases e : b = Λ.w.heap.size
    · subst e; rw [relab_same] at hb; simp at hb; simp; omega
    · rw [relab_ne e] at hb; have := g1 b i hb; simp; omega
  · by_cases hi' : i < os.length
    · rw [List.getElem?_append_left hi'] at hi
      obtain ⟨b', arr', et, f1, f2, f3, f4⟩ := g2 i cs hi
      have hb' : b' < Λ.w.heap.size := heap_lt f2
      exact ⟨b', arr', et, by simp only; rw [relab_ne (by omega)]; exact f1, by rw [g.old hb']; exact f2, f3, fun j v c q1 q2 => (f4 j v c q1 q2).mono hkp⟩
    · have hii : i = os.length := by
        have := (List.getElem?_eq_some_iff.1 hi).1
        simp at this; omega
      subst hii
      rw [List.getElem?_append_right (Nat.le_refl _)] at hi
      simp at hi; subst hi
      exact ⟨Λ.w.heap.size, arr, e, by simp [relab_same], g.top, hs, hv _ hkp⟩

theorem o_boxF {t : TypeId} {x : Operand} {x' : Ar} {k : Nat} {os : List (List V)} {vs : List V} (ho : o.op = .box t x) (hx : opA x = some x') (hvs : (x'.u st).parts = some vs) (hk : aget st.s.sto k = some (.fobs os)) :
    OSound P o base st { v := .fpt k os.length 0, ob := [(k, .fobs (os ++ [vs]))], rd := true } := by
  intro C Λ a next Q hC hr hle hfree hnext
  have hx1 := (hr.opu hx).parts hvs
  have hrun : (execOp a.eval o).run P Λ.w = .ok (.value (.pointer (some ⟨Λ.w.heap.size, 0, none⟩))) (Λ.w.alloc (.cells (a.eval x).cells t)) := by
    simp only [execOp, ho]
    simp [Instr.box, newVar, newRow]
  unfold Oper.wp
  rw [hrun]
  obtain ⟨Λ', e1, e2, e3, e4, e5, e6⟩ := new_fob hr.s (Grew.alloc Λ.w (.cells (a.eval x).cells t)) hk hx1.1 (fun Λ' hkp j v c q1 q2 => (hx1.2 j v c q1 q2).mono hkp)
  rw [← e1]
  refine hnext _ Λ' e3 e2 e4 e5 (fun j hj hn _ => e6 j hj ?_)
  rintro rfl; rw [hk] at hn; cases hn

theorem o_allocF {t : TypeId} {zs : List V} {k : Nat} {os : List (List V)} (ho : o.op = .alloc t) (hz : zerosOf P t = some zs) (hk : aget st.s.sto k = some (.fobs os)) :
    OSound P o base st { v := .fpt k os.length 0, ob := [(k, .fobs (os ++ [zs]))], rd := true } := by
  intro C Λ a next Q hC hr hle hfree hnext
  obtain ⟨i, z, hi, hz1, hlen, hok⟩ := zerosOf_spec hz
  have hrun : (execOp a.eval o).run P Λ.w = .ok (.value (.pointer (some ⟨Λ.w.heap.size, 0, none⟩))) (Λ.w.alloc (.cells z.cells t)) := by
    simp only [execOp, ho]
    simp [Instr.alloc, zeroValue, typeInfo, hi, hz1, newVar, newRow]
  unfold Oper.wp
  rw [hrun]
  have hrc := fun Λ' : L => zeros_relC (Λ := Λ') hok
  obtain ⟨Λ', e1, e2, e3, e4, e5, e6⟩ := new_fob hr.s (Grew.alloc Λ.w (.cells z.cells t)) hk (hrc Λ).1 (fun Λ' hkp j v c q1 q2 => (hrc Λ').2 j v c q1 q2)
  rw [← e1]
  refine hnext _ Λ' e3 e2 e4 e5 (fun j hj hn _ => e6 j hj ?_)
  rintro rfl; rw [hk] at hn; cases hn
end
end Go.GB


/-
  GbOh: appends to growing arrays that may be changed.
-/
namespace Go.GB
section
variable {P : Program} {o : Oper} {base : Nat} {st : St}

/-- what is appended, as the world has it -/
theorem addV_src {sz : Nat} (h0 : 0 < sz) {C : Ctx} {Λ : L} {a : Act} (hr : Rel C Λ st a) {y : Operand} {y' : Ar} (hy : opA y = some y') {vs : List V} {m : Nat} (h : addV st sz (y'.u st) = some (vs, m)) :
    vs.length = m * sz ∧ ((m = 0 ∧ ∃ ad c, a.eval y = .slice ad 0 c) ∨ (0 < m ∧ ∃ (b off cap : Nat) (us : List Value), a.eval y = .slice (some ⟨b, off, none⟩) m cap ∧ m ≤ cap ∧ us.length = m * sz ∧
      (∀ (j : Nat) (u : Value), us[j]? = some u → Λ.w.cell? ⟨b, off + j, none⟩ = some u) ∧ ∀ (j : Nat) (u : Value) (c : V), us[j]? = some u → vs[j]? = some c → RelV Λ u c)) := by
  have hy1 := hr.opu hy
  unfold addV at h
  have blk : ∀ {b off len cap : Nat} {arr : Array Value} {e : TypeId} {cs : List V}, a.eval y = .slice (some ⟨b, off, none⟩) len cap → len ≤ cap → Λ.w.heap[b]? = some (.cells arr e (0, 0)) → off + len * sz ≤ cs.length → cs.length ≤ arr.size →
      (∀ (j : Nat) (v : Value) (c : V), arr[j]? = some v → cs[j]? = some c → RelV Λ v c) → vs = (cs.drop off).take (len * sz) → m = len →
      vs.length = m * sz ∧ ((m = 0 ∧ ∃ ad c, a.eval y = .slice ad 0 c) ∨ (0 < m ∧ ∃ (b off cap : Nat) (us : List Value), a.eval y = .slice (some ⟨b, off, none⟩) m cap ∧ m ≤ cap ∧ us.length = m * sz ∧
      (∀ (j : Nat) (u : Value), us[j]? = some u → Λ.w.cell? ⟨b, off + j, none⟩ = some u) ∧ ∀ (j : Nat) (u : Value) (c : V), us[j]? = some u → vs[j]? = some c → RelV Λ u c)) := by
    intro b off len cap arr e cs he hcap h2 hle hca h4 hvs hm
    subst hvs hm
    refine ⟨by simp; omega, ?_⟩
    by_cases hm0 : m = 0
    · subst hm0; exact .inl ⟨rfl, _, _, he⟩
    · refine .inr ⟨by omega, b, off, cap, (arr.toList.drop off).take (m * sz), he, hcap, by simp; omega, fun j u hu => ?_, fun j u c hu hc => ?_⟩
      · rw [List.getElem?_take] at hu
        split at hu
        · rw [List.getElem?_drop] at hu; rw [cell_of_row Λ.w b _ arr e _ h2]; simpa using hu
        · cases hu
      · rw [List.getElem?_take] at hu hc
        split at hc
        · rename_i hj
          rw [if_pos hj] at hu
          rw [List.getElem?_drop] at hu hc
          exact h4 _ u c (by simpa using hu) hc
        · cases hc
  split at h
  · rename_i ys hc1
    split at h
    · rename_i hl
      obtain ⟨h1, h2⟩ := Prod.mk.inj (Option.some.inj h); subst h1 h2
      have hlY := allLen_at hl
      have hfl := flat_len ys hlY
      refine ⟨by rw [List.length_map]; exact hfl, ?_⟩
      have hrep := hy1.cell1 hc1
      by_cases hm0 : ys.length = 0
      · refine .inl ⟨hm0, ?_⟩
        have : ys = [] := List.length_eq_zero_iff.1 hm0
        subst this
        generalize a.eval y = u at hrep
        cases hrep with
        | lst ad cap _ _ _ _ _ _ _ _ _ _ _ => exact ⟨ad, cap, rfl⟩
      · obtain ⟨b, off, cap, us, e1, e2, e3, e4, e5⟩ := hrep.cells hlY (by omega) h0
        refine .inr ⟨by omega, b, off, cap, us, e1, e2, e3, fun j u hu => (e4 j u hu).1, fun j u c hu hc => ?_⟩
        rw [List.getElem?_map, Option.map_eq_some_iff] at hc
        obtain ⟨x, hx, rfl⟩ := hc
        exact .t (e5 j u x hu hx)
    · cases h
  · split at h
    · rename_i k off len s hyv
      split at h
      · rename_i cs hk
        split at h
        · rename_i hc
          simp at h; obtain ⟨h1, h2⟩ := h
          rw [hyv] at hy1
          generalize he : a.eval y = u at hy1
          cases hy1 with
          | slc hkn hcap hb =>
            obtain ⟨arr, e, g2, g3, g4⟩ := hr.s.objCells hk hb
            exact he ▸ blk he hcap g2 hc.2 (by omega) g4 h1.symm h2.symm
        · cases h
      · cases h
    · rename_i k ver off len s hyv
      split at h
      · rename_i w cs hk
        split at h
        · rename_i hc
          simp at h; obtain ⟨h1, h2⟩ := h
          rw [hyv] at hy1
          generalize he : a.eval y = u at hy1
          cases hy1 with
          | gsl _ hkn _ hb =>
            rcases hb (hc.2.1.trans (hr.s.sto k _ hk).2.1.symm) with ⟨⟨ad, rfl⟩, hl0⟩ | ⟨b, cap, N, rfl, hcap, hcur, hN, hN'⟩
            · subst hl0
              refine ⟨by rw [← h1, ← h2]; simp, .inl ⟨h2.symm, ad, 0, rfl⟩⟩
            · obtain ⟨arr, e, g2, g3, g4⟩ := hr.s.gCells hk hcur
              exact he ▸ blk he hcap g2 hc.2.2 g3 g4 h1.symm h2.symm
        · cases h
      · cases h
    · cases h

/-- the growing array of a name after a growth into a new block -/
theorem grow_new {Λ : L} {s : S} {w' : World} {arr : Array Value} {e : TypeId} {k i ver sz n cap : Nat} {cs : List V} (h : RelS Λ s) (g : Grew Λ.w w' (.cells arr e)) (hk : k < Λ.nxt) (hv : Λ.frf k 0 < ver) (hi : ∀ b j, Λ.lab b = .fob k j → j < i)
    (hle : cs.length ≤ arr.size) (hn : n ≤ cap) (hcap : arr.size = cap * sz) (hrel : ∀ (Λ' : L), Kp Λ Λ' → ∀ (j : Nat) (v : Value) (c : V), arr[j]? = some v → cs[j]? = some c → RelV Λ' v c) :
    ∃ Λ', Λ'.w = w' ∧ Λ'.nxt = Λ.nxt ∧ Kp Λ Λ' ∧ RelS Λ' { s with sto := aset s.sto k (.gro ver cs) } ∧ RelV Λ' (.slice (some ⟨Λ.w.heap.size, 0, none⟩) n cap) (.gsl k ver 0 n sz) ∧ ∀ j, Free Λ j → j ≠ k → Free Λ' j := by
  have F := FStep.grow (i := i) (n := ver) h g (fun b hb => by have := hi b _ hb; omega) hv
  have hkp := F.kp h
  have hcur : GCur (relab Λ.lab Λ.w.heap.size (.fob k i)) k Λ.w.heap.size := by
    refine ⟨i, by simp [relab_same], fun b' j hb => ?_⟩
    by_cases e : b' = Λ.w.heap.size
    · subst e; rw [relab_same] at hb; simp at hb; omega
    · rw [relab_ne e] at hb; have := hi b' j hb; omega
  refine ⟨{ Λ with lab := relab Λ.lab Λ.w.heap.size (.fob k i), w := w', frf := refrf Λ.frf k 0 ver }, rfl, rfl, hkp, F.rels (o := .gro ver cs) h hk ⟨by simp [refrf], .inr ⟨Λ.w.heap.size, arr, e, hcur, g.top, hle, hrel _ hkp⟩⟩, .gsl ⟨_, _, _, rfl⟩ hk ⟨fun h0 => absurd h0 (by omega), by simp [refrf]⟩ (fun _ => .inr ⟨Λ.w.heap.size, cap, arr.size, rfl, hn, hcur, by simp [rowSize, g.top], by simp [hcap]⟩), fun j hj hne => F.free hj hne⟩

/-- the growing array of a name after a growth in its block, or none -/
theorem grow_same {Λ : L} {s : S} {w' : World} {arr A : Array Value} {e : TypeId} {k b ver sz n cap : Nat} {cs cs0 : List V} {w0 : Nat} (h : RelS Λ s) (hks : aget s.sto k = some (.gro w0 cs0)) (hv : w0 < ver) (hcur : GCur Λ.lab k b) (hb : Λ.w.heap[b]? = some (.cells arr e (0, 0)))
    (hw : w' = Λ.w.setRow b A) (hA : A.size = arr.size) (hle : cs.length ≤ A.size) (hn : n ≤ cap) (hcap : A.size = cap * sz) (hrel : ∀ (j : Nat) (v : Value) (c : V), A[j]? = some v → cs[j]? = some c → RelV Λ v c) :
    ∃ Λ', Λ'.w = w' ∧ Λ'.nxt = Λ.nxt ∧ Kp Λ Λ' ∧ RelS Λ' { s with sto := aset s.sto k (.gro ver cs) } ∧ RelV Λ' (.slice (some ⟨b, 0, none⟩) n cap) (.gsl k ver 0 n sz) ∧ ∀ j, Free Λ j → j ≠ k → Free Λ' j := by
  subst hw
  obtain ⟨hk, hv0, _⟩ := h.sto k _ hks
  obtain ⟨i, hi, hi'⟩ := hcur
  have F1 := FStep.write h (Wrote.setRow Λ.w b A) hi (rowSize_setRow hb hA)
  have k1 := F1.kp h
  have hh := setRow_heap Λ.w b arr A e (0, 0) hb
  have r1 := F1.rels (o := .gro w0 cs) h hk ⟨hv0, .inr ⟨b, A, e, ⟨i, hi, hi'⟩, hh, hle, fun j v c q1 q2 => (hrel j v c q1 q2).mono k1⟩⟩
  have F2 := FStep.bump (k := k) (i := 0) (n := ver) r1 (by show Λ.frf k 0 < ver; omega)
  have k2 := F2.kp r1
  have r2 := F2.rels (o := .gro ver cs) r1 hk ⟨by simp [refrf], .inr ⟨b, A, e, ⟨i, hi, hi'⟩, hh, hle, fun j v c q1 q2 => ((hrel j v c q1 q2).mono k1).mono k2⟩⟩
  refine ⟨{ Λ with w := Λ.w.setRow b A, frf := refrf Λ.frf k 0 ver }, rfl, rfl, Kp.trans k1 k2, ?_, .gsl ⟨_, _, _, rfl⟩ hk ⟨fun h0 => absurd h0 (by omega), by simp [refrf]⟩ (fun _ => .inr ⟨b, cap, A.size, rfl, hn, ⟨i, hi, hi'⟩, ?_, by simp [hcap]⟩), fun j hj hne => F2.free (F1.free hj hne) hne⟩
  · have e2 : aset (aset s.sto k (.gro w0 cs)) k (.gro ver cs) = aset s.sto k (.gro ver cs) := by
      generalize s.sto = l
      induction l with
      | nil => simp [aset]
      | cons x r ih =>
        obtain ⟨j, x⟩ := x
        by_cases hj : j = k
        · subst hj; simp [aset]
        · simp [aset, hj, ih]
    rw [← e2]; exact r2
  · show rowSize (Λ.w.setRow b A) b = some A.size
    simp [rowSize, hh]
end
end Go.GB


/-
  GbOi: appends to growing arrays that may be changed: the operations.
-/
namespace Go.GB
section
variable {P : Program} {o : Oper} {base : Nat} {st : St}

/-- what is appended: the value, and its cells -/
def Src (Λ : L) (sz : Nat) (u : Value) (vs : List V) (m : Nat) : Prop :=
  vs.length = m * sz ∧ ((m = 0 ∧ ∃ ad c, u = .slice ad 0 c) ∨ (0 < m ∧ ∃ (b off cap : Nat) (us : List Value), u = .slice (some ⟨b, off, none⟩) m cap ∧ m ≤ cap ∧ us.length = m * sz ∧
      (∀ (j : Nat) (v : Value), us[j]? = some v → Λ.w.cell? ⟨b, off + j, none⟩ = some v) ∧ ∀ (j : Nat) (v : Value) (c : V), us[j]? = some v → vs[j]? = some c → RelV Λ v c))

/-- a nil slice grows -/
theorem app_gnil {sz bytes : Nat} {x' y' : Ar} (A : AppOp P o sz bytes x' y') {C : Ctx} {Λ : L} {a : Act} (hr : Rel C Λ st a) {k ver m : Nat} {vs : List V} (hk : k < Λ.nxt) (hv : Λ.frf k 0 < ver) (hno : (∀ b i, Λ.lab b ≠ .fob k i) ∨ ∃ (b : Nat) (arr : Array Value) (e : TypeId), GCur Λ.lab k b ∧ Λ.w.heap[b]? = some (.cells arr e (0, 0))) {ad : Option Addr} (hnil : a.eval A.x = .slice ad 0 0)
    (hs : Src Λ sz (a.eval A.y) vs m) (hroom : m * bytes ≤ 140737488355328) (h63 : m ≤ 9223372036854775807) :
    ∃ v Λ', (execOp a.eval o).run P Λ.w = .ok (.value v) Λ'.w ∧ Kp Λ Λ' ∧ Λ'.nxt = Λ.nxt ∧ RelS Λ' { st.s with sto := aset st.s.sto k (.gro ver vs) } ∧ RelV Λ' v (.gsl k ver 0 m sz) ∧ ∀ j, Free Λ j → j ≠ k → Free Λ' j := by
  obtain ⟨hl, ⟨hm, a', c, hy⟩ | ⟨hm, b, off, cap, us, hy, hcap, hul, huc, hur⟩⟩ := hs
  · subst hm
    have hvs : vs = [] := List.length_eq_zero_iff.1 (by omega)
    subst hvs
    have hrun : (execOp a.eval o).run P Λ.w = .ok (.value (.slice ad 0 0)) Λ.w := by
      refine run_op_append A.ho rfl A.ha A.hat ?_
      rw [hnil, hy]
      exact run_append_zero A.ht A.hi ad 0 0 (Nat.le_refl _) a' c Λ.w
    have F := FStep.bump (k := k) (i := 0) (n := ver) hr.s hv
    have hkp := F.kp hr.s
    refine ⟨_, { Λ with frf := refrf Λ.frf k 0 ver }, hrun, hkp, rfl, F.rels (o := .gro ver []) hr.s hk ⟨by simp [refrf], ?_⟩, .gsl ⟨_, _, _, rfl⟩ hk ⟨fun h0 => absurd h0 (by omega), by simp [refrf]⟩ (fun _ => .inl ⟨⟨_, rfl⟩, rfl⟩), fun j hj hne => F.free hj hne⟩
    rcases hno with hno | ⟨b, arr, e, g1, g2⟩
    · exact .inl ⟨rfl, hno⟩
    · exact .inr ⟨b, arr, e, g1, g2, by simp, by simp⟩
  · have hrun' : (Builtin.append_ #[A.t, A.t] o.type #[.slice ad 0 0, .slice (some ⟨b, off, none⟩) m cap]).run P Λ.w =
        .ok (.slice (some ⟨Λ.w.heap.size, 0, none⟩) m (grownCap Λ.w m 0 A.e)) (Λ.w.drew.alloc (.cells (us.toArray ++ Builtin.zeroCells A.z.cells (grownCap Λ.w m 0 A.e - m)) A.e)) := by
      cases ad with
      | none => exact run_append_nil (P := P) Λ.w A.t o.type A.e A.inf A.z A.ht A.hi A.hz ⟨b, off, none⟩ m cap us (by rw [A.hs]; exact hul) (fun j u hu => by rw [add_mk]; exact huc j u hu) (by omega) (by omega) (by rw [A.hb]; omega)
      | some ad =>
        have := run_append_grow (P := P) Λ.w A.t o.type A.e A.inf A.z A.ht A.hi A.hz ad 0 0 [] (by simp) (by simp) ⟨b, off, none⟩ m cap us (by rw [A.hs]; exact hul) (fun j u hu => by rw [add_mk]; exact huc j u hu) (by omega) (by omega) (by rw [Nat.zero_add, nextslicecap_zero (by omega), A.hb]; omega)
        simpa only [Nat.zero_add, List.append_toArray, List.nil_append] using this
    have hrun := run_op_append (x := A.x) (y := A.y) (a := a) A.ho rfl A.ha A.hat (by rw [hnil, hy]; exact hrun')
    have hge := grownCap_ge Λ.w m 0 A.e
    obtain ⟨i0, hi0⟩ : ∃ i0, ∀ b j, Λ.lab b = .fob k j → j < i0 := by
      rcases hno with hno | ⟨b, _, _, ⟨i, g1, g2⟩, _⟩
      · exact ⟨0, fun b j hb => absurd hb (hno b j)⟩
      · exact ⟨i + 1, fun b' j hb => by have := g2 b' j hb; omega⟩
    obtain ⟨Λ', e1, e2, e3, e4, e5, e6⟩ := grow_new (i := i0) (ver := ver) (sz := sz) (n := m) (cap := grownCap Λ.w m 0 A.e) (cs := vs) hr.s (Grew.drewAlloc Λ.w (.cells (us.toArray ++ Builtin.zeroCells A.z.cells (grownCap Λ.w m 0 A.e - m)) A.e)) hk hv hi0
      (by simp [hul, hl]) hge (by simp only [Array.size_append, List.size_toArray, size_zeroCells, A.hzs, hul]; rw [← Nat.add_mul]; congr 1; omega) (fun Λ' hkp j v c q1 q2 => by
        have hj := (List.getElem?_eq_some_iff.1 q2).1
        rw [Array.getElem?_append_left (by simp; omega)] at q1
        exact (hur j v c (by simpa using q1) q2).mono hkp)
    exact ⟨_, Λ', by rw [hrun, e1], e3, e2, e4, e5, e6⟩

theorem o_appN {sz bytes : Nat} {x' y' : Ar} {vs : List V} {m : Nat} (A : AppOp P o sz bytes x' y') (hxv : x'.u st = .nils) (hyv : addV st sz (y'.u st) = some (vs, m)) (hroom : m * bytes ≤ 140737488355328) (h63 : m ≤ 9223372036854775807) :
    OSound P o base st { v := .gsl base 1 0 m sz, ob := [(base, .gro 1 vs)], n := 1, rd := true } := by
  intro C Λ a next Q hC hr hle hfree hnext
  have hx1 := hr.opu A.hx
  rw [hxv] at hx1
  obtain ⟨ad, hnil⟩ : ∃ ad, a.eval A.x = .slice ad 0 0 := by generalize a.eval A.x = u at hx1; cases hx1; exact ⟨_, rfl⟩
  obtain ⟨hb1, hb2, hb3⟩ := hfree base (Nat.le_refl _) (by simp)
  obtain ⟨v, Λ', h1, h2, h3, h4, h5, h6⟩ := app_gnil (ver := 1) A hr hb1 (by rw [hb2.frf 0]; omega) (.inl hb2.fob) hnil (addV_src A.h0 hr A.hy hyv) hroom h63
  unfold Oper.wp
  rw [h1]
  exact hnext v Λ' h2 h3 h4 h5 (fun k hk _ hlt => h6 k hk (by simp at hlt; omega))

theorem o_appG {sz bytes : Nat} {x' y' : Ar} {k ver len w : Nat} {cs vs : List V} {m : Nat} (A : AppOp P o sz bytes x' y') (hxv : x'.u st = .gsl k ver 0 len sz) (hk : aget st.s.sto k = some (.gro w cs)) (hw : ver = w) (hcl : cs.length = len * sz)
    (hyv : addV st sz (y'.u st) = some (vs, m)) (hok : vs.all V.cellOk = true) (hroom : (len + m) * bytes ≤ 140737488355328) (h63 : len + m ≤ 9223372036854775807) :
    OSound P o base st { v := .gsl k (w + 1) 0 (len + m) sz, ob := [(k, .gro (w + 1) (cs ++ vs))], rd := true } := by
  intro C Λ a next Q hC hr hle hfree hnext
  have hx1 := hr.opu A.hx
  rw [hxv] at hx1
  obtain ⟨hkn, hwv, hcur0⟩ := hr.s.sto k _ hk
  have hsrc := addV_src A.h0 hr A.hy hyv
  have hkj : ∀ j, aget st.s.sto j = none → j ≠ k := by rintro j hn rfl; rw [hk] at hn; cases hn
  unfold Oper.wp
  generalize hxe : a.eval A.x = vx at hx1
  cases hx1 with
  | gsl _ _ _ hb =>
  rcases hb (hw.trans hwv.symm) with ⟨⟨ad, rfl⟩, hl0⟩ | ⟨b, cap, N, rfl, hcap, hcur, hN, hN'⟩
  · subst hl0
    have hcs : cs = [] := List.length_eq_zero_iff.1 (by omega)
    subst hcs
    have hno : (∀ b i, Λ.lab b ≠ .fob k i) ∨ ∃ (b : Nat) (arr : Array Value) (e : TypeId), GCur Λ.lab k b ∧ Λ.w.heap[b]? = some (.cells arr e (0, 0)) := by
      rcases hcur0 with ⟨_, g⟩ | ⟨b, arr, e, g1, g2, _⟩
      · exact .inl g
      · exact .inr ⟨b, arr, e, g1, g2⟩
    obtain ⟨v, Λ', h1, h2, h3, h4, h5, h6⟩ := app_gnil (ver := w + 1) A hr hkn (by omega) hno hxe hsrc (by simpa using hroom) (by simpa using h63)
    rw [h1]
    exact hnext v Λ' h2 h3 (by simpa [S.app, asets] using h4) (by simpa using h5) (fun j hj hn _ => h6 j hj (hkj j hn))
  · obtain ⟨arr, e', hhb, hac, hold⟩ := hr.s.gCells hk hcur
    have hNa : N = arr.size := by simpa [rowSize, hhb] using hN.symm
    have hac2 : arr.size = cap * sz := by omega
    obtain ⟨hl, ⟨hm, a', c, hy⟩ | ⟨hm, yb, yoff, ycap, us, hy, hyc, hul, huc, hur⟩⟩ := hsrc
    · subst hm
      have hvs : vs = [] := List.length_eq_zero_iff.1 (by omega)
      subst hvs
      have hrun : (execOp a.eval o).run P Λ.w = .ok (.value (.slice (some ⟨b, 0, none⟩) len cap)) Λ.w := by
        refine run_op_append A.ho rfl A.ha A.hat ?_
        rw [hxe, hy]
        exact run_append_zero A.ht A.hi _ _ _ hcap a' c Λ.w
      rw [hrun]
      have F := FStep.bump (k := k) (i := 0) (n := w + 1) hr.s (by omega)
      have hkp := F.kp hr.s
      refine hnext _ { Λ with frf := refrf Λ.frf k 0 (w + 1) } hkp rfl (F.rels (o := .gro (w + 1) (cs ++ [])) hr.s hkn ⟨by simp [refrf], .inr ⟨b, arr, e', hcur, hhb, by simpa using hac, fun j v c q1 q2 => (hold j v c q1 (by simpa using q2)).mono hkp⟩⟩) (.gsl ⟨_, _, _, rfl⟩ hkn ⟨fun h0 => absurd h0 (by omega), by simp [refrf]⟩ (fun _ => .inr ⟨b, cap, N, rfl, hcap, hcur, hN, hN'⟩)) (fun j hj hn _ => F.free hj (hkj j hn))
    · have hone : ∀ u ∈ us, u.oneCell' = true := by
        intro u hu
        obtain ⟨j, hj⟩ := List.mem_iff_getElem?.1 hu
        have hjl := (List.getElem?_eq_some_iff.1 hj).1
        have hjv : j < vs.length := by omega
        exact (hur j u vs[j] hj (by simp [hjv])).oneCell (by rw [List.all_eq_true] at hok; exact hok _ (List.getElem_mem hjv))
      by_cases hrm : len + m ≤ cap
      · have hfit : len * A.inf.size + us.length ≤ arr.size := by
          rw [A.hs, hul, hac2, ← Nat.add_mul]; exact Nat.mul_le_mul_right _ hrm
        have hrun' := run_append_room' (P := P) (ty := o.type) Λ.w A.ht A.hi b len cap arr hhb ⟨yb, yoff, none⟩ m ycap us (by rw [A.hs]; exact hul) (fun j u hu => by rw [add_mk]; exact huc j u hu) hone hrm hfit
        have hrun := run_op_append (x := A.x) (y := A.y) (a := a) A.ho rfl A.ha A.hat (by rw [hxe, hy]; exact hrun')
        rw [hrun]
        rw [A.hs] at hfit ⊢
        have hsz2 : (arr.toList.take (len * sz) ++ us ++ arr.toList.drop (len * sz + us.length)).toArray.size = arr.size := by simp; omega
        have hget : ∀ (j : Nat) (v : Value) (c : V), (arr.toList.take (len * sz) ++ us ++ arr.toList.drop (len * sz + us.length)).toArray[j]? = some v → (cs ++ vs)[j]? = some c → RelV Λ v c := by
          intro j v c q1 q2
          have hlt : (arr.toList.take (len * sz)).length = len * sz := by simp; omega
          have q1' : (arr.toList.take (len * sz) ++ us ++ arr.toList.drop (len * sz + us.length))[j]? = some v := by simpa using q1
          by_cases hj : j < cs.length
          · rw [List.getElem?_append_left hj] at q2
            rw [List.append_assoc, List.getElem?_append_left (by omega), List.getElem?_take, if_pos (by omega)] at q1'
            exact hold j v c (by simpa using q1') q2
          · rw [List.getElem?_append_right (by omega)] at q2
            have hjv := (List.getElem?_eq_some_iff.1 q2).1
            rw [List.append_assoc, List.getElem?_append_right (by omega), List.getElem?_append_left (by omega), hlt, ← hcl] at q1'
            exact hur _ v c q1' q2
        generalize (arr.toList.take (len * sz) ++ us ++ arr.toList.drop (len * sz + us.length)).toArray = A2 at *
        obtain ⟨Λ', e1, e2, e3, e4, e5, e6⟩ := grow_same (ver := w + 1) (sz := sz) (n := len + m) (cap := cap) (cs := cs ++ vs) hr.s hk (by omega) hcur hhb rfl hsz2 (by rw [hsz2, hac2, List.length_append, hl, hcl, ← Nat.add_mul]; exact Nat.mul_le_mul_right _ hrm) hrm (by omega) hget
        rw [← e1]
        exact hnext _ Λ' e3 e2 (by simpa [S.app, asets] using e4) e5 (fun j hj hn _ => e6 j hj (hkj j hn))
      · have hrun' := run_append_grow (P := P) Λ.w A.t o.type A.e A.inf A.z A.ht A.hi A.hz ⟨b, 0, none⟩ len cap (arr.toList.take (len * sz)) (by have := Nat.mul_le_mul_right sz hcap; rw [A.hs]; simp; omega)
          (fun j u hu => by
            rw [add_mk, cell_of_row Λ.w b _ arr e' _ hhb, Nat.zero_add]
            rw [List.getElem?_take] at hu
            split at hu
            · simpa using hu
            · cases hu) ⟨yb, yoff, none⟩ m ycap us (by rw [A.hs]; exact hul) (fun j u hu => by rw [add_mk]; exact huc j u hu) (by omega) (by omega)
          (by rw [A.hb]; exact growslice_fits (by omega) hroom)
        have hrun := run_op_append (x := A.x) (y := A.y) (a := a) A.ho rfl A.ha A.hat (by rw [hxe, hy]; exact hrun')
        rw [hrun]
        have hge := grownCap_ge Λ.w (len + m) cap A.e
        obtain ⟨i, hi1, hi2⟩ := hcur
        have htl : (arr.toList.take (len * sz)).length = len * sz := by have := Nat.mul_le_mul_right sz hcap; simp; omega
        obtain ⟨Λ', e1, e2, e3, e4, e5, e6⟩ := grow_new (i := i + 1) (ver := w + 1) (sz := sz) (n := len + m) (cap := grownCap Λ.w (len + m) cap A.e) (cs := cs ++ vs) hr.s (Grew.drewAlloc Λ.w (.cells ((arr.toList.take (len * sz)).toArray ++ us.toArray ++ Builtin.zeroCells A.z.cells (grownCap Λ.w (len + m) cap A.e - (len + m))) A.e)) hkn (by omega) (fun b' j hb => by have := hi2 b' j hb; omega)
          (by simp only [Array.size_append, List.size_toArray, htl, hul, List.length_append, hcl, hl]; omega) hge (by simp only [Array.size_append, List.size_toArray, size_zeroCells, A.hzs, hul, htl]; rw [← Nat.add_mul, ← Nat.add_mul]; congr 1; omega) (fun Λ' hkp j v c q1 q2 => by
            have hj := (List.getElem?_eq_some_iff.1 q2).1
            rw [List.length_append] at hj
            rw [Array.getElem?_append_left (by simp only [Array.size_append, List.size_toArray, htl, hul]; omega)] at q1
            by_cases hjc : j < cs.length
            · rw [List.getElem?_append_left hjc] at q2
              rw [Array.getElem?_append_left (by simp only [List.size_toArray, htl]; omega)] at q1
              rw [List.getElem?_toArray, List.getElem?_take, if_pos (by omega)] at q1
              exact (hold j v c (by simpa using q1) q2).mono hkp
            · rw [List.getElem?_append_right (by omega)] at q2
              rw [Array.getElem?_append_right (by simp only [List.size_toArray, htl]; omega)] at q1
              simp only [List.size_toArray, htl, List.getElem?_toArray] at q1
              rw [← hcl] at q1
              exact (hur _ v c q1 q2).mono hkp)
        rw [← e1]
        exact hnext _ Λ' e3 e2 (by simpa [S.app, asets] using e4) e5 (fun j hj hn _ => e6 j hj (hkj j hn))
end
end Go.GB


/-
  GbOj: appends to the arrays of a family.
-/
namespace Go.GB

/-- an array of a family grows into a new block -/
theorem FStep.growA {Λ : L} {w' : World} {o : Obj} {k i n fr : Nat} {s : S} (h : RelS Λ s) (g : Grew Λ.w w' o) (hn : Λ.frf k i < n) :
    FStep Λ { Λ with lab := relab Λ.lab Λ.w.heap.size (.far k i fr), w := w', frf := refrf Λ.frf k i n } k := by
  have hne : ∀ {b : Nat}, b < Λ.w.heap.size → relab Λ.lab Λ.w.heap.size (.far k i fr) b = Λ.lab b := fun h => relab_ne (by omega)
  have hnf : ∀ b j, relab Λ.lab Λ.w.heap.size (.far k i fr) b = .fob k j → Λ.lab b = .fob k j := by
    intro b j hb
    by_cases e : b = Λ.w.heap.size
    · subst e; rw [relab_same] at hb; cases hb
    · rw [relab_ne e] at hb; exact hb
  have hlt : ∀ {b : Nat} {x : Lab}, Λ.lab b = x → x ≠ .fix none → b < Λ.w.heap.size := by
    intro b x hl hx
    rcases Nat.lt_or_ge b Λ.w.heap.size with h' | h'
    · exact h'
    · rw [h.new b h'] at hl; exact absurd hl.symm hx
  refine ⟨g.os, g.tape, g.output, by rw [g.size]; omega, rfl, rfl, fun b => ?_, fun b hb _ => g.old hb, fun b j hl => ⟨by simp only [hne (hlt hl (by simp))]; exact hl, fun N hN => by unfold rowSize at hN ⊢; rw [g.old (hlt hl (by simp))]; exact hN⟩, fun b j m hb hl _ => ⟨by simp only [hne hb]; exact hl, g.old hb⟩, fun b j m hb hl o ho => ⟨by simp [Rd, hne hb, hl, ho], cell?_heap (g.old hb)⟩,
    fun j i' hj => refrf_ne (by omega), fun i' => ?_, fun b j _ hb => hnf b j hb, fun b b' j h1 h2 => h.injF b b' k j (hnf b j h1) (hnf b' j h2), fun b hb => ?_⟩
  · by_cases e : b = Λ.w.heap.size
    · subst e; refine .inr ⟨by simp [relab_same, Lab.ofK], .inr (Nat.le_refl _)⟩
    · exact .inl (relab_ne e)
  · by_cases e : i' = i
    · subst e; show Λ.frf k i' ≤ refrf Λ.frf k i' n k i'; rw [refrf_same]; omega
    · show Λ.frf k i' ≤ refrf Λ.frf k i n k i'; rw [refrf_ne (by simp [e])]; exact Nat.le_refl _
  · simp only at hb ⊢
    rw [g.size] at hb
    rw [relab_ne (by omega)]; exact h.new b (by omega)

/-- an array of a family grows in its block -/
theorem FStep.grownA {Λ : L} {w' : World} {b k i n fr fr' : Nat} {s : S} (h : RelS Λ s) (g : Wrote Λ.w w' b) (hb : Λ.lab b = .far k i fr) (hfr : fr ≤ fr') (hc : ∀ o, o < fr → w'.cell? ⟨b, o, none⟩ = Λ.w.cell? ⟨b, o, none⟩) (hn : Λ.frf k i < n) :
    FStep Λ { Λ with lab := relab Λ.lab b (.far k i fr'), w := w', frf := refrf Λ.frf k i n } k := by
  have hnf : ∀ c j, relab Λ.lab b (.far k i fr') c = .fob k j → Λ.lab c = .fob k j ∧ c ≠ b := by
    intro c j hc
    by_cases e : c = b
    · subst e; rw [relab_same] at hc; cases hc
    · rw [relab_ne e] at hc; exact ⟨hc, e⟩
  have hcb : ∀ c j, Λ.lab c = .fob k j → c ≠ b := by rintro c j hl rfl; rw [hb] at hl; cases hl
  refine ⟨g.os, g.tape, g.output, by rw [g.size]; exact Nat.le_refl _, rfl, rfl, fun c => ?_, fun c _ hc => g.old c (fun e => hc (by rw [e, hb]; rfl)), fun c j hl => ⟨by simp only [relab_ne (hcb c j hl)]; exact hl, fun N hN => by unfold rowSize at hN ⊢; rw [g.old c (hcb c j hl)]; exact hN⟩, fun c j m hcl hl he => ?_, fun c j m hcl hl o ho => ?_,
    fun j i' hj => refrf_ne (by omega), fun i' => ?_, fun c j _ hb => (hnf c j hb).1, fun c c' j h1 h2 => h.injF c c' k j (hnf c j h1).1 (hnf c' j h2).1, fun c hcl => ?_⟩
  · by_cases e : c = b
    · subst e; exact .inr ⟨by simp [relab_same, Lab.ofK], .inl (by rw [hb]; rfl)⟩
    · exact .inl (relab_ne e)
  · have hji : j ≠ i := by
      rintro rfl
      have : refrf Λ.frf k j n k j = Λ.frf k j := he
      rw [refrf_same] at this; omega
    have hcb : c ≠ b := by rintro rfl; rw [hb] at hl; simp at hl; exact hji hl.1.symm
    exact ⟨by simp only [relab_ne hcb]; exact hl, g.old c hcb⟩
  · by_cases e : c = b
    · subst e
      rw [hb] at hl; simp at hl; obtain ⟨_, rfl⟩ := hl
      exact ⟨by simp [Rd, relab_same]; omega, hc o ho⟩
    · exact ⟨by simp [Rd, relab_ne e, hl, ho], cell?_heap (g.old c e)⟩
  · by_cases e : i' = i
    · subst e; show Λ.frf k i' ≤ refrf Λ.frf k i' n k i'; rw [refrf_same]; omega
    · show Λ.frf k i' ≤ refrf Λ.frf k i n k i'; rw [refrf_ne (by simp [e])]; exact Nat.le_refl _
  · simp only at hcl ⊢
    rw [g.size] at hcl
    have : c ≠ b := by intro e; rw [e] at hcl; rw [h.new _ hcl] at hb; simp at hb
    rw [relab_ne this]; exact h.new c hcl

theorem FStep.same {Λ : L} {k : Nat} {s : S} (h : RelS Λ s) : FStep Λ Λ k :=
  ⟨rfl, rfl, rfl, Nat.le_refl _, rfl, rfl, fun _ => .inl rfl, fun _ _ _ => rfl, fun _ _ hl => ⟨hl, fun _ h => h⟩, fun _ _ _ _ hl _ => ⟨hl, rfl⟩, fun c j m _ hl o ho => ⟨by simp [Rd, hl, ho], rfl⟩, fun _ _ _ => rfl, fun _ => Nat.le_refl _, fun _ _ _ h => h, fun b b' j h1 h2 => h.injF b b' k j h1 h2, h.new⟩

section
variable {P : Program} {o : Oper} {base : Nat} {st : St}

/-- the lengths of a family -/
theorem farr_set {f : Nat → Nat → Nat} {k i n : Nat} {ns : List Nat} (h : ∀ j, f k j = (ns[j]?).getD 0) (hi : i < ns.length) : ∀ j, refrf f k i n k j = ((ns.set i n)[j]?).getD 0 := by
  intro j
  rw [List.getElem?_set]
  by_cases e : i = j
  · subst e; rw [refrf_same, if_pos rfl, if_pos hi]; rfl
  · rw [refrf_ne (by omega), if_neg e]; exact h j

theorem o_appF {sz bytes k i : Nat} {x' y' : Ar} {xs ys : List (List T)} {ns : List Nat} (A : AppOp P o sz bytes x' y') (hxv : x'.u st = .fow k i sz xs) (hk : aget st.s.sto k = some (.farr ns)) (hi : ns[i]? = some xs.length) (hyv : (y'.u st).cell1 = some (.lst ys)) (hl : allLen sz ys = true)
    (hroom : (xs.length + ys.length) * bytes ≤ 140737488355328) (h63 : xs.length + ys.length ≤ 9223372036854775807) :
    OSound P o base st { v := .fow k i sz (xs ++ ys), ob := [(k, .farr (ns.set i (xs.length + ys.length)))], rd := true } := by
  intro C Λ a next Q hC hr hle hfree hnext
  have hx1 := hr.opu A.hx
  rw [hxv] at hx1
  obtain ⟨hkn, hns⟩ := hr.s.sto k _ hk
  have hns : ∀ j, Λ.frf k j = (ns[j]?).getD 0 := hns
  have hfk : Λ.frf k i = xs.length := by rw [hns i, hi]; rfl
  have hil : i < ns.length := (List.getElem?_eq_some_iff.1 hi).1
  have hy1 := (hr.opu A.hy).cell1 hyv
  have hlY := allLen_at hl
  have hkj : ∀ j, aget st.s.sto j = none → j ≠ k := by rintro j hn rfl; rw [hk] at hn; cases hn
  unfold Oper.wp
  generalize hxe : a.eval A.x = vx at hx1
  cases hx1 with
  | fow hrep hsz _ _ how =>
  by_cases hy0 : ys.length = 0
  · have hys : ys = [] := List.length_eq_zero_iff.1 hy0
    subst hys
    have hvx : ∃ ad n cap, vx = .slice ad n cap ∧ n ≤ cap := by
      rcases how hfk.symm with ⟨⟨ad, rfl⟩, _⟩ | ⟨b, cap, arr, e', rfl, _, _, _, hnc⟩
      · exact ⟨_, _, _, rfl, Nat.le_refl _⟩
      · exact ⟨_, _, _, rfl, hnc⟩
    have hrun : (execOp a.eval o).run P Λ.w = .ok (.value vx) Λ.w := by
      refine run_op_append A.ho rfl A.ha A.hat ?_
      obtain ⟨ad, n, cap, rfl, hnc⟩ := hvx
      rw [hxe]
      generalize a.eval A.y = u at hy1
      cases hy1 with
      | lst a' cap' _ _ _ _ _ _ _ _ _ _ _ => exact run_append_zero A.ht A.hi _ _ _ hnc a' cap' Λ.w
    rw [hrun]
    have e0 : ns.set i (xs.length + ([] : List (List T)).length) = ns := by
      apply List.ext_getElem?
      intro j; rw [List.getElem?_set]
      by_cases e : i = j
      · subst e; rw [if_pos rfl, if_pos hil, hi]; simp
      · rw [if_neg e]
    rw [e0] at hnext
    have F := FStep.same (k := k) hr.s
    refine hnext _ Λ (Kp.refl Λ) rfl (F.rels (o := .farr ns) hr.s hkn hns) (by simpa using RelV.fow hrep hsz hkn (by omega) how) (fun j hj _ _ => hj)
  · obtain ⟨yb, yoff, ycap, vs, hv, hcap, hvl, hvc, hvr⟩ := hy1.cells hlY (by omega) A.h0
    have hone : ∀ u ∈ vs, u.oneCell' = true := by
      intro u hu
      obtain ⟨j, hj⟩ := List.mem_iff_getElem?.1 hu
      have hjl := (List.getElem?_eq_some_iff.1 hj).1
      have hfl : j < ys.flatten.length := by rw [flat_len ys hlY]; omega
      exact (hvr j u ys.flatten[j] hj (by simp)).oneCell
    rcases how hfk.symm with ⟨⟨ad, rfl⟩, hx0⟩ | ⟨b, cap, arr, e', rfl, hlb, hhb, hac, hnc⟩
    · have hxs : xs = [] := List.length_eq_zero_iff.1 hx0
      subst hxs
      have hrun' : (Builtin.append_ #[A.t, A.t] o.type #[.slice ad 0 0, .slice (some ⟨yb, yoff, none⟩) ys.length ycap]).run P Λ.w =
          .ok (.slice (some ⟨Λ.w.heap.size, 0, none⟩) ys.length (grownCap Λ.w ys.length 0 A.e)) (Λ.w.drew.alloc (.cells (vs.toArray ++ Builtin.zeroCells A.z.cells (grownCap Λ.w ys.length 0 A.e - ys.length)) A.e)) := by
        simp only [List.length_nil, Nat.zero_add] at hroom h63
        cases ad with
        | none => exact run_append_nil (P := P) Λ.w A.t o.type A.e A.inf A.z A.ht A.hi A.hz ⟨yb, yoff, none⟩ ys.length ycap vs (by rw [A.hs]; exact hvl) (fun j u hu => by rw [add_mk]; exact (hvc j u hu).1) (by omega) (by omega) (by rw [A.hb]; omega)
        | some ad =>
          have := run_append_grow (P := P) Λ.w A.t o.type A.e A.inf A.z A.ht A.hi A.hz ad 0 0 [] (by simp) (by simp) ⟨yb, yoff, none⟩ ys.length ycap vs (by rw [A.hs]; exact hvl) (fun j u hu => by rw [add_mk]; exact (hvc j u hu).1) (by omega) (by omega) (by rw [Nat.zero_add, nextslicecap_zero (by omega), A.hb]; omega)
          simpa only [Nat.zero_add, List.append_toArray, List.nil_append] using this
      have hrun := run_op_append (x := A.x) (y := A.y) (a := a) A.ho rfl A.ha A.hat (by rw [hxe, hv]; exact hrun')
      rw [hrun]
      have hge := grownCap_ge Λ.w ys.length 0 A.e
      have F := FStep.growA (i := i) (n := ([] : List (List T)).length + ys.length) (fr := ys.length * sz) hr.s (Grew.drewAlloc Λ.w (.cells (vs.toArray ++ Builtin.zeroCells A.z.cells (grownCap Λ.w ys.length 0 A.e - ys.length)) A.e)) (by rw [hfk]; simp; omega)
      have g := Grew.drewAlloc Λ.w (.cells (vs.toArray ++ Builtin.zeroCells A.z.cells (grownCap Λ.w ys.length 0 A.e - ys.length)) A.e)
      have k1 := F.kp hr.s
      refine hnext _ _ k1 rfl (F.rels (o := .farr _) hr.s hkn (farr_set hns hil)) (.fow ?_ (by simpa using hlY) hkn (by simp [refrf]) (fun _ => .inr ⟨Λ.w.heap.size, _, _, _, rfl, by simp [relab], g.top, ?_, by simpa using hge⟩)) (fun j hj hn _ => F.free hj (hkj j hn))
      · rw [List.nil_append]
        refine rep_block (sz := sz) (vs := vs) g.top hge rfl hlY (fun o ho => by simp [Rd, relab]; exact ho) (fun j v hj => ?_) hvl (fun j v x h1 h2 => (hvr j v x h1 h2).mono k1.fr)
        rw [Array.getElem?_append_left (by have := (List.getElem?_eq_some_iff.1 hj).1; simpa using this)]; simpa using hj
      · simp only [Array.size_append, List.size_toArray, size_zeroCells, A.hzs, hvl]
        rw [← Nat.add_mul]; congr 1; omega
    · -- the old cells
      have hold : ∃ us : List Value, us.length = xs.length * sz ∧ (∀ (j : Nat) (u : Value), us[j]? = some u → arr[j]? = some u) ∧ ∀ (j : Nat) (u : Value) (x : T), us[j]? = some u → xs.flatten[j]? = some x → RepT Λ.lab Λ.w u x := by
        by_cases hx0 : xs.length = 0
        · exact ⟨[], by simp [hx0], by simp, by simp⟩
        · obtain ⟨b', off', cap', us, e1, e2, e3, e4, e5⟩ := hrep.cells hsz (by omega) A.h0
          simp at e1
          obtain ⟨⟨rfl, rfl⟩, rfl⟩ := e1
          refine ⟨us, e3, fun j u hu => ?_, e5⟩
          have := (e4 j u hu).1
          rw [cell_of_row Λ.w b _ arr e' _ hhb] at this
          simpa using this
      obtain ⟨us, hul, huc, hur⟩ := hold
      have hflat : (xs ++ ys).flatten = xs.flatten ++ ys.flatten := by simp
      have hboth : ∀ (j : Nat) (u : Value) (x : T), (us ++ vs)[j]? = some u → (xs ++ ys).flatten[j]? = some x → RepT Λ.lab Λ.w u x := by
        intro j u x h1 h2
        rw [hflat] at h2
        have hxl := flat_len xs hsz
        by_cases hj : j < us.length
        · rw [List.getElem?_append_left hj] at h1
          rw [List.getElem?_append_left (by omega)] at h2
          exact hur j u x h1 h2
        · rw [List.getElem?_append_right (by omega)] at h1
          rw [List.getElem?_append_right (by omega)] at h2
          rw [hxl, ← hul] at h2
          exact hvr _ u x h1 h2
      by_cases hrm : xs.length + ys.length ≤ cap
      · have hfit : xs.length * A.inf.size + vs.length ≤ arr.size := by
          rw [A.hs, hvl, hac, ← Nat.add_mul]; exact Nat.mul_le_mul_right _ hrm
        have hrun' := run_append_room' (P := P) (ty := o.type) Λ.w A.ht A.hi b xs.length cap arr hhb ⟨yb, yoff, none⟩ ys.length ycap vs (by rw [A.hs]; exact hvl) (fun j u hu => by rw [add_mk]; exact (hvc j u hu).1) hone hrm hfit
        have hrun := run_op_append (x := A.x) (y := A.y) (a := a) A.ho rfl A.ha A.hat (by rw [hxe, hv]; exact hrun')
        rw [hrun]
        rw [A.hs] at hfit ⊢
        have harrL : ∀ j, j < xs.length * sz → (arr.toList.take (xs.length * sz) ++ vs ++ arr.toList.drop (xs.length * sz + vs.length)).toArray[j]? = arr[j]? := by
          intro j hj
          have : (arr.toList.take (xs.length * sz)).length = xs.length * sz := by simp; omega
          simp only [List.getElem?_toArray]
          rw [List.append_assoc, List.getElem?_append_left (by omega), List.getElem?_take, if_pos hj]
          simp
        have hsz2 : (arr.toList.take (xs.length * sz) ++ vs ++ arr.toList.drop (xs.length * sz + vs.length)).toArray.size = cap * sz := by simp; omega
        have hget2 : ∀ (j : Nat) (v : Value), (us ++ vs)[j]? = some v → (arr.toList.take (xs.length * sz) ++ vs ++ arr.toList.drop (xs.length * sz + vs.length)).toArray[j]? = some v := by
          intro j v hj
          by_cases hjl : j < us.length
          · rw [List.getElem?_append_left hjl] at hj
            rw [harrL j (by omega)]; exact huc j v hj
          · rw [List.getElem?_append_right (by omega)] at hj
            have : (arr.toList.take (xs.length * sz)).length = xs.length * sz := by simp; omega
            simp only [List.getElem?_toArray]
            have hjv := (List.getElem?_eq_some_iff.1 hj).1
            rw [List.append_assoc, List.getElem?_append_right (by omega), List.getElem?_append_left (by omega), this, ← hul]; exact hj
        generalize (arr.toList.take (xs.length * sz) ++ vs ++ arr.toList.drop (xs.length * sz + vs.length)).toArray = A2 at *
        have F := FStep.grownA (n := xs.length + ys.length) (fr' := (xs.length + ys.length) * sz) hr.s (Wrote.setRow Λ.w b A2) hlb (Nat.mul_le_mul_right _ (by omega)) (fun o ho => by
          rw [cell_setRow_same _ _ _ _ _ _ _ hhb, cell_of_row Λ.w b o arr e' _ hhb]; exact harrL o ho) (by omega)
        have k1 := F.kp hr.s
        refine hnext (.slice (some ⟨b, 0, none⟩) (xs.length + ys.length) cap) _ k1 rfl (F.rels (o := .farr _) hr.s hkn (farr_set hns hil)) (.fow ?_ (allLen_append hsz hlY) hkn (by simp [refrf]) (fun _ => .inr ⟨b, cap, A2, e', by simp, by simp [relab], setRow_heap _ _ _ _ _ _ hhb, hsz2, by simpa using hrm⟩)) (fun j hj hn _ => F.free hj (hkj j hn))
        exact rep_block (sz := sz) (vs := us ++ vs) (setRow_heap _ _ _ _ _ _ hhb) hrm (by simp) (allLen_append hsz hlY) (fun o ho => by simp [Rd, relab] at ho ⊢; exact ho) hget2 (by simp [hul, hvl, Nat.add_mul]) (fun j v x h1 h2 => (hboth j v x h1 h2).mono k1.fr)
      · have hrun' := run_append_grow (P := P) Λ.w A.t o.type A.e A.inf A.z A.ht A.hi A.hz ⟨b, 0, none⟩ xs.length cap us (by rw [A.hs]; exact hul)
          (fun j u hu => by rw [add_mk, cell_of_row Λ.w b _ arr e' _ hhb, Nat.zero_add]; exact huc j u hu) ⟨yb, yoff, none⟩ ys.length ycap vs (by rw [A.hs]; exact hvl) (fun j u hu => by rw [add_mk]; exact (hvc j u hu).1) (by omega) (by omega)
          (by rw [A.hb]; exact growslice_fits (by omega) hroom)
        have hrun := run_op_append (x := A.x) (y := A.y) (a := a) A.ho rfl A.ha A.hat (by rw [hxe, hv]; exact hrun')
        rw [hrun]
        have g := Grew.drewAlloc Λ.w (.cells (us.toArray ++ vs.toArray ++ Builtin.zeroCells A.z.cells (grownCap Λ.w (xs.length + ys.length) cap A.e - (xs.length + ys.length))) A.e)
        have F := FStep.growA (k := k) (i := i) (n := xs.length + ys.length) (fr := (xs.length + ys.length) * sz) hr.s g (by omega)
        have k1 := F.kp hr.s
        have hge := grownCap_ge Λ.w (xs.length + ys.length) cap A.e
        refine hnext (.slice (some ⟨Λ.w.heap.size, 0, none⟩) (xs.length + ys.length) (grownCap Λ.w (xs.length + ys.length) cap A.e)) _ k1 rfl (F.rels (o := .farr _) hr.s hkn (farr_set hns hil)) (.fow ?_ (allLen_append hsz hlY) hkn (by simp [refrf]) (fun _ => .inr ⟨Λ.w.heap.size, grownCap Λ.w (xs.length + ys.length) cap A.e, _, A.e, by simp, by simp [relab], g.top, ?_, by simpa using hge⟩)) (fun j hj hn _ => F.free hj (hkj j hn))
        · refine rep_block (sz := sz) (vs := us ++ vs) g.top hge (by simp) (allLen_append hsz hlY) (fun o ho => by simp [Rd, relab] at ho ⊢; exact ho) (fun j v hj => ?_) (by simp [hul, hvl, Nat.add_mul]) (fun j v x h1 h2 => (hboth j v x h1 h2).mono k1.fr)
          have hjl := (List.getElem?_eq_some_iff.1 hj).1
          rw [Array.getElem?_append_left (by simpa using hjl)]
          have : (us.toArray ++ vs.toArray)[j]? = (us ++ vs)[j]? := by simp
          rw [this]; exact hj
        · simp only [Array.size_append, List.size_toArray, size_zeroCells, A.hzs, hvl, hul]
          rw [← Nat.add_mul, ← Nat.add_mul]; congr 1; omega
end
end Go.GB


/-
  GbOk: slice literals of cells of any kind; clear on growing arrays.
-/
namespace Go.GB
section
variable {P : Program} {o : Oper} {base : Nat} {st : St}

theorem obj_fill {C : Ctx} {Λ : L} {ac : Act} (h : Rel C Λ st ac) (sz : Nat) : ∀ (parts : List (Nat × Operand)) (ps : List (Nat × Ar)) (arr : Array Value) (cs xs : List V),
    slotsOf parts = some ps → RelC Λ arr cs → objParts st sz cs ps = some xs →
    ∃ arr', Instr.fill (fun i => some (i * sz, sz)) arr (parts.map fun (i, x) => (i, ac.eval x)) = some arr' ∧ RelC Λ arr' xs
  | [], ps, arr, cs, xs, hps, hr, hf => by
    simp [slotsOf] at hps; subst hps; simp [objParts] at hf; subst hf
    exact ⟨arr, rfl, hr⟩
  | (i, x) :: parts, ps, arr, cs, xs, hps, hr, hf => by
    simp only [slotsOf] at hps
    split at hps
    · rename_i a l h1 h2
      simp at hps; subst hps
      simp only [objParts] at hf
      split at hf
      · rename_i c hc
        split at hf
        · rename_i hcond
          have hrc := (h.opu h1).parts hc
          have hfold := RelC.foldl (i * sz) (ac.eval x).cells.toList c 0 arr cs (by simpa using hrc.1) (fun j a b e1 e2 => hrc.2 j a b (by simpa using e1) e2) hr
          rw [Nat.add_zero] at hfold
          obtain ⟨arr', e1, e2⟩ := obj_fill h sz parts l _ _ xs h2 hfold hf
          refine ⟨arr', ?_, e2⟩
          have hsz : (ac.eval x).cells.size = sz := by rw [hrc.1]; exact hcond.1
          have hsz2 : arr.size = cs.length := hr.1
          simp only [List.map_cons, Instr.fill, hsz]
          have : ¬ (i * sz + sz > arr.size) := by omega
          simp only [ne_eq, not_true_eq_false, decide_false, this, Bool.or_self, Bool.false_eq_true, if_false]
          rw [← e1]
          congr 1
          rw [← Array.foldl_toList, Array.toList_zipIdx]
        · simp at hf
      · simp at hf
    · simp at hps

theorem o_bslO {sz : Nat} {zs : List (List T)} {ps : List (Nat × Ar)} {cs : List V} (B : BslOp P o sz zs ps) (hx : objParts st sz (zs.flatten.map V.t) ps = some cs) : OSound P o base st { v := .slc base 0 zs.length sz, ob := [(base, .cells cs)], n := 1 } := by
  intro C Λ a next Q hC hr hle hfree hnext
  obtain ⟨i, zval, hi, hz1, hlen, hok⟩ := zerosOf_spec B.hzv
  have hsz : i.size = sz := by have := B.hs; unfold szOf at this; rw [hi] at this; simpa using this
  have hrc := relC_pure (zeros_relC (Λ := Λ) hok) B.hz
  have hzl : zval.cells.size = sz := by rw [(zeros_relC (Λ := Λ) hok).1, hlen]; exact hsz
  have hmade := made_relC hrc B.n
  have hfl : (List.replicate B.n (B.z.map V.t)).flatten = (zs.flatten.map V.t) := by have e := B.hzs; generalize B.n = n at *; generalize B.z = z at *; subst e; simp
  rw [hfl] at hmade
  obtain ⟨arr, e1, e2⟩ := obj_fill hr sz _ _ _ _ _ B.hps hmade hx
  have hn : zs.length = B.n := by have e := congrArg List.length B.hzs; simpa using e
  have hrun := run_buildSlice (o := o) (a := a) (w := Λ.w) B.ho B.ht hi hz1 (by rw [hzl, hsz]) (by rw [hsz]; exact B.hle) (by rw [hsz]; exact e1)
  unfold Oper.wp
  rw [hrun]
  obtain ⟨hb1, hb2, hb3⟩ := hfree base (Nat.le_refl _) (by simp)
  have g := Grew.alloc Λ.w (.cells arr B.e)
  have hkp := Kp.new g hr.s.new (.obj base)
  obtain ⟨k1, k2, k3⟩ := new_obj hr.s g hb1 hb2 rfl (ao := .cells cs) ⟨Λ.w.heap.size, _, _, by simp [relab_same], g.top, e2.1, fun j v c q1 q2 => (e2.2 j v c q1 q2).mono hkp⟩
  rw [← hn]
  exact hnext _ _ k1 rfl k2 (.slc hb1 (Nat.le_refl _) (by simp [relab_same])) (fun k hk _ hlt => k3 k hk (by simp at hlt; omega))

/-- the lengths of a family with one more array -/
theorem farr_push {f : Nat → Nat → Nat} {k n : Nat} {ns : List Nat} (h : ∀ j, f k j = (ns[j]?).getD 0) : ∀ j, refrf f k ns.length n k j = ((ns ++ [n])[j]?).getD 0 := by
  intro j
  by_cases e : ns.length = j
  · subst e; rw [refrf_same]; simp
  · rw [refrf_ne (by omega), h j]
    by_cases hj : j < ns.length
    · rw [List.getElem?_append_left hj]
    · rw [List.getElem?_eq_none (by omega), List.getElem?_eq_none (by simp; omega)]
theorem o_bslF {sz k : Nat} {zs xs : List (List T)} {ps : List (Nat × Ar)} {ns : List Nat} (B : BslOp P o sz zs ps) (hx : pureParts st sz zs ps = some xs) (hk : aget st.s.sto k = some (.farr ns)) (h0 : 0 < xs.length) :
    OSound P o base st { v := .fow k ns.length sz xs, ob := [(k, .farr (ns ++ [xs.length]))], rd := true } := by
  intro C Λ a next Q hC hr hle hfree hnext
  obtain ⟨arr, h1, h2, h3⟩ := bsl_run B hr hx
  obtain ⟨hkn, hns⟩ := hr.s.sto k _ hk
  have hns : ∀ j, Λ.frf k j = (ns[j]?).getD 0 := hns
  have hfk : Λ.frf k ns.length = 0 := by rw [hns]; simp
  have hkj : ∀ j, aget st.s.sto j = none → j ≠ k := by rintro j hn rfl; rw [hk] at hn; cases hn
  unfold Oper.wp
  rw [h1]
  have g := Grew.alloc Λ.w (.cells arr B.e)
  have F := FStep.growA (k := k) (i := ns.length) (n := xs.length) (fr := xs.length * sz) hr.s g (by omega)
  have k1 := F.kp hr.s
  have hal : arr.size = xs.length * sz := by rw [h2.1, List.length_map, flat_len xs h3]
  refine hnext _ _ k1 rfl (F.rels (o := .farr _) hr.s hkn (farr_push hns)) (.fow ?_ h3 hkn (by simp [refrf]) (fun _ => .inr ⟨Λ.w.heap.size, xs.length, arr, B.e, rfl, by simp [relab], g.top, hal, Nat.le_refl _⟩)) (fun j hj hn _ => F.free hj (hkj j hn))
  refine rep_block (sz := sz) (vs := arr.toList) g.top (Nat.le_refl _) rfl h3 (fun o ho => by simp [Rd, relab]; exact ho) (fun j v hj => by simpa using hj) (by rw [Array.length_toList, hal]) fun j v x e1 e2 => ?_
  exact (h2.2 j v (.t x) (by simpa using e1) (by simp only [List.getElem?_map, e2]; rfl)).repT.mono k1.fr
theorem o_clrG {ty e : TypeId} {x : Operand} {args : Array Operand} {ats : Array TypeId} {x' : Ar} {sz : Nat} {z : List V} {k ver off len w : Nat} {cs : List V} (hop : o.op = .call { callee := .builtin .clear, args := args, argTypes := ats }) (ha : args.toList = [x]) (hat : ats[0]? = some ty)
    (hu : P.underlying ty = some (.slice e)) (hs : szOf P e = some sz) (hz : zerosOf P e = some z) (hzc : z.all V.cellOk = true) (hx : opA x = some x') (hxv : x'.u st = .gsl k ver off len sz) (hk : aget st.s.sto k = some (.gro w cs)) (hw : ver = w) (hle : off + len * sz ≤ cs.length) :
    OSound P o base st { v := .top, ob := [(k, .gro w (setAt cs off (List.replicate len z).flatten))], rd := true } := by
  intro C Λ a next Q hC hr hle' hfree hnext
  have hx1 := hr.opu hx
  rw [hxv] at hx1
  obtain ⟨hkn, hwv, hcur0⟩ := hr.s.sto k _ hk
  have hargs : args.map a.eval = #[a.eval x] := by apply Array.ext'; simp [ha]
  obtain ⟨i, zval, hi, hz1, hlen, hok⟩ := zerosOf_spec hz
  have hsz : i.size = sz := by have := hs; unfold szOf at this; rw [hi] at this; simpa using this
  have hrc := zeros_relC (Λ := Λ) hok
  have hzl : zval.cells.size = sz := by rw [hrc.1, hlen]; exact hsz
  have hkj : ∀ j, aget st.s.sto j = none → j ≠ k := by rintro j hn rfl; rw [hk] at hn; cases hn
  unfold Oper.wp
  generalize hxe : a.eval x = vx at hx1
  cases hx1 with
  | gsl _ _ _ hb =>
  have hE : (a.eval x = vx) := hxe
  by_cases hl0 : len = 0
  · subst hl0
    have hsl : ∃ ad c, vx = .slice ad 0 c := by
      rcases hb (hw.trans hwv.symm) with ⟨⟨ad, rfl⟩, _⟩ | ⟨b, cap, N, rfl, _⟩
      · exact ⟨_, _, rfl⟩
      · exact ⟨_, _, rfl⟩
    obtain ⟨ad, c, rfl⟩ := hsl
    have hrun : (execOp a.eval o).run P Λ.w = .ok (.value (.tuple #[])) Λ.w := by
      simp only [execOp, hop, resolve, Sem.run_bind, Sem.run_pure, Result.andThen_ok, invoke, builtin, hargs, hxe]
      cases ad <;> simp [Builtin.clear_, hat, run_underlying hu]
    rw [hrun]
    have e0 : setAt cs off (List.replicate 0 z).flatten = cs := by simp [setAt]
    rw [e0] at hnext
    exact hnext _ Λ (Kp.refl Λ) rfl ((FStep.same (k := k) hr.s).rels (o := .gro w cs) hr.s hkn ⟨hwv, hcur0⟩) .top (fun j hj _ _ => hj)
  · rcases hb (hw.trans hwv.symm) with ⟨⟨ad, rfl⟩, h0⟩ | ⟨b, cap, N, rfl, hcap, hcur, hN, hN'⟩
    · exact absurd h0 hl0
    · obtain ⟨arr, e', hhb, hac, hold⟩ := hr.s.gCells hk hcur
      obtain ⟨n, rfl⟩ : ∃ n, len = n + 1 := ⟨len - 1, by omega⟩
      have hmade := made_relC hrc (n + 1)
      have hvl : (List.replicate (n + 1) z).flatten.length = (n + 1) * sz := by
        have := flat_len (sz := sz) (List.replicate (n + 1) z) (fun i c hc => by
          have := List.mem_of_getElem? hc
          rw [List.mem_replicate] at this
          rw [this.2]; omega)
        simpa using this
      have hone : ∀ u ∈ (Builtin.zeroCells zval.cells (n + 1)).toList, u.oneCell' = true := by
        intro u hu
        obtain ⟨j, hj⟩ := List.mem_iff_getElem?.1 hu
        have hj' : (Builtin.zeroCells zval.cells (n + 1))[j]? = some u := by simpa using hj
        have hlt : j < (List.replicate (n + 1) z).flatten.length := by rw [← hmade.1]; exact (Array.getElem?_eq_some_iff.1 hj').1
        refine (hmade.2 j u _ hj' (List.getElem?_eq_getElem hlt)).oneCell ?_
        have hm := List.getElem_mem hlt
        simp only [List.mem_flatten, List.mem_replicate] at hm
        obtain ⟨l, ⟨_, rfl⟩, hm⟩ := hm
        rw [List.all_eq_true] at hzc
        exact hzc _ hm
      have hul : (Builtin.zeroCells zval.cells (n + 1)).toList.length = (List.replicate (n + 1) z).flatten.length := by rw [← hmade.1]; simp [Builtin.zeroCells]
      have hst := run_storeCells_at P b off e' (Builtin.zeroCells zval.cells (n + 1)).toList 0 arr Λ.w hhb (by simp; rw [← Array.length_toList, hul, hvl]; omega) hone
      simp only [Nat.add_zero] at hst
      have hrun : (execOp a.eval o).run P Λ.w = .ok (.value (.tuple #[])) (Λ.w.setRow b (arr.toList.take off ++ (Builtin.zeroCells zval.cells (n + 1)).toList ++ arr.toList.drop (off + (Builtin.zeroCells zval.cells (n + 1)).toList.length)).toArray) := by
        simp only [execOp, hop, resolve, Sem.run_bind, Sem.run_pure, Result.andThen_ok, invoke, builtin, hargs, hxe]
        simp [Builtin.clear_, hat, run_underlying hu, zeroValue, typeInfo, hi, hz1]
        simp at hst
        simp [hst]
      rw [hrun]
      obtain ⟨i', hb', hb2⟩ := hcur
      have hrow := row_set (Λ := Λ) (arr := arr) (cs := cs) (vs := (List.replicate (n + 1) z).flatten) (us := (Builtin.zeroCells zval.cells (n + 1)).toList) (off := off) hul (by rw [hvl]; exact hle) hac hold (fun j v c q1 q2 => hmade.2 j v c (by rw [Array.getElem?_toList] at q1; exact q1) q2)
      have hA : (arr.toList.take off ++ (Builtin.zeroCells zval.cells (n + 1)).toList ++ arr.toList.drop (off + (Builtin.zeroCells zval.cells (n + 1)).toList.length)).toArray.size = arr.size := by
        simp only [List.size_toArray, List.length_append, List.length_take, List.length_drop, hul, hvl, Array.length_toList]; omega
      generalize (arr.toList.take off ++ (Builtin.zeroCells zval.cells (n + 1)).toList ++ arr.toList.drop (off + (Builtin.zeroCells zval.cells (n + 1)).toList.length)).toArray = A at hrow hA ⊢
      have F := FStep.write hr.s (Wrote.setRow Λ.w b A) hb' (rowSize_setRow hhb hA)
      have hkp := F.kp hr.s
      exact hnext _ _ hkp rfl (F.rels hr.s hkn ⟨hwv, .inr ⟨b, A, e', ⟨i', hb', hb2⟩, setRow_heap _ _ _ _ _ _ hhb, by rw [setAt_length, hA]; exact hac, fun j v c q1 q2 => (hrow j v c q1 q2).mono hkp⟩⟩) .top (fun j hj hn _ => F.free hj (hkj j hn))
end
end Go.GB


/-
  GbP: calls; every operation does what its evaluation says, guards included.
-/
namespace Go.GB
section
variable {P : Program} {ops : Array Oper} {o : Oper} {base : Nat} {st : St}

theorem mapM_opA : ∀ (xs : List Operand) (ys : List Ar), xs.mapM opA = some ys → xs.length = ys.length ∧ ∀ (j : Nat) (x : Operand) (y : Ar), xs[j]? = some x → ys[j]? = some y → opA x = some y := by
  intro xs
  induction xs with
  | nil => intro c h; simp at h; subst h; simp
  | cons d cs ih =>
    intro c h
    simp only [List.mapM_cons, Option.bind_eq_bind, Option.pure_def, Option.bind_eq_some_iff] at h
    obtain ⟨y, hy, c', hc', h⟩ := h
    simp at h; subst h
    obtain ⟨i1, i2⟩ := ih c' hc'
    refine ⟨by simp [i1], fun j e z h1 h2 => ?_⟩
    cases j with
    | zero => simp at h1 h2; subst h1; subst h2; exact hy
    | succ j => exact i2 j e z (by simpa using h1) (by simpa using h2)

theorem argsV_get : ∀ (xs : List Ar) (j : Nat), (argsV st xs)[j]? = (xs[j]?).map (Ar.u st)
  | [], j => by simp [argsV]
  | x :: r, 0 => by simp [argsV]
  | x :: r, j + 1 => by simp [argsV, argsV_get r j]
theorem argsV_len : ∀ (xs : List Ar), (argsV st xs).length = xs.length
  | [] => rfl
  | x :: r => by simp [argsV, argsV_len r]
theorem capsV_get : ∀ (xs : List (Nat × Nat)) (j : Nat), (capsV xs)[j]? = (xs[j]?).map fun c => V.ptr c.1 c.2
  | [], j => by simp [capsV]
  | x :: r, 0 => by simp [capsV]
  | x :: r, j + 1 => by simp [capsV, capsV_get r j]
theorem capsV_len : ∀ (xs : List (Nat × Nat)), (capsV xs).length = xs.length
  | [] => rfl
  | x :: r => by simp [capsV, capsV_len r]

theorem rel_args {C : Ctx} {Λ : L} {a : Act} (hr : Rel C Λ st a) {args : Array Operand} {args' : List Ar} (h : args.toList.mapM opA = some args') :
    (args.map a.eval).size = (argsV st args').length ∧ ∀ (j : Nat) (v : Value) (x : V), (args.map a.eval)[j]? = some v → (argsV st args')[j]? = some x → RelV Λ v x := by
  obtain ⟨h1, h2⟩ := mapM_opA _ _ h
  refine ⟨by simp [argsV_len]; simpa using h1, fun j v x hv hx => ?_⟩
  rw [argsV_get, Option.map_eq_some_iff] at hx
  obtain ⟨y, hy, rfl⟩ := hx
  rw [Array.getElem?_map, Option.map_eq_some_iff] at hv
  obtain ⟨z, hz, rfl⟩ := hv
  exact hr.opu (h2 j z y (by simpa using hz) hy)

theorem o_enter {f : FuncId} {vs : List V} {out : Out} (hf : FnAt P f vs base st.s.sto out)
    (hrun : ∀ (C : Ctx) (Λ : L) (a : Act), Rel C Λ st a → ∃ args : Array Value, (execOp a.eval o).run P Λ.w = .ok (.enter f args) Λ.w ∧ args.size = vs.length ∧ ∀ (j : Nat) (v : Value) (x : V), args[j]? = some v → vs[j]? = some x → RelV Λ v x) :
    OSound P o base st out := by
  intro C Λ a next Q hC hr hle hfree hnext
  obtain ⟨args, h1, h2, h3⟩ := hrun C Λ a hr
  unfold Oper.wp
  rw [h1]
  refine (hf.2.2 Λ args ⟨hr.s.sto, hr.s.inj, hr.s.new, hr.s.bnd, hr.s.frz, hr.s.injF, hr.s.bndF, hr.s.frzF⟩ hle hfree h2 h3).mono fun e w' h => ?_
  obtain ⟨v, Λ', rfl, rfl, k1, k2, k3, k4, k5⟩ := h
  exact hnext v Λ' k1 k2 ⟨k3.sto, k3.inj, k3.new, k3.bnd, k3.frz, k3.injF, k3.bndF, k3.frzF⟩ k4 k5

theorem o_call {f : FuncId} {args : Array Operand} {ats : Array TypeId} {args' : List Ar} {out : Out} (ho : o.op = .call { callee := .value (.func f), args := args, argTypes := ats }) (ha : args.toList.mapM opA = some args')
    (hf : FnAt P f (argsV st args') base st.s.sto out) : OSound P o base st out := by
  refine o_enter hf fun C Λ a hr => ?_
  obtain ⟨h1, h2⟩ := rel_args hr ha
  refine ⟨args.map a.eval, ?_, h1, h2⟩
  have hb := hf.1 (args.map a.eval) Λ.w
  simp only [execOp, ho, resolve, Act.eval, Deferred.ofValue, Sem.run_bind, Sem.run_pure, Result.andThen_ok, invoke]
  simpa using hb

theorem o_callv {f : FuncId} {t : Nat} {args : Array Operand} {ats : Array TypeId} {args' : List Ar} {caps : List (Nat × Nat)} {out : Out} (ho : o.op = .call { callee := .value (.tmp t), args := args, argTypes := ats }) (ha : args.toList.mapM opA = some args')
    (hv : (look st.env t).ug = .fn f caps) (hf : FnAt P f (argsV st args' ++ capsV caps) base st.s.sto out) : OSound P o base st out := by
  refine o_enter hf fun C Λ a hr => ?_
  obtain ⟨h1, h2⟩ := rel_args hr ha
  have ht := (hr.env t).ug
  rw [hv] at ht
  generalize he : a.tmps.getD t undef = u at ht
  cases ht with
  | @fn _ vs _ hs hc =>
    refine ⟨args.map a.eval ++ vs, ?_, by simp [argsV_len, capsV_len] at h1 ⊢; omega, fun j v x hj hx => ?_⟩
    · have hb := hf.1 (args.map a.eval ++ vs) Λ.w
      have he' : a.eval (.tmp t) = .func (.func f) #[] vs := he
      simp only [execOp, ho, resolve, he', Deferred.ofValue, Sem.run_bind, Sem.run_pure, Result.andThen_ok, invoke]
      simpa using hb
    · by_cases hjl : j < (args.map a.eval).size
      · rw [Array.getElem?_append_left hjl] at hj
        rw [List.getElem?_append_left (by omega)] at hx
        exact h2 j v x hj hx
      · rw [Array.getElem?_append_right (by omega)] at hj
        rw [List.getElem?_append_right (by omega), capsV_get, Option.map_eq_some_iff] at hx
        obtain ⟨c, hc1, rfl⟩ := hx
        rw [← h1] at hc1
        obtain ⟨b, e1, e2, e3⟩ := hc _ v c hj hc1
        subst e1
        exact .ptr e3 e2

theorem o_callv0 {f : FuncId} {t : Nat} {args : Array Operand} {ats : Array TypeId} {args' : List Ar} {out : Out} (ho : o.op = .call { callee := .value (.tmp t), args := args, argTypes := ats }) (ha : args.toList.mapM opA = some args')
    (hv : (look st.env t).ug = .t (.fn f)) (hf : FnAt P f (argsV st args') base st.s.sto out) : OSound P o base st out := by
  refine o_enter hf fun C Λ a hr => ?_
  obtain ⟨h1, h2⟩ := rel_args hr ha
  have ht := (hr.env t).ug
  rw [hv] at ht
  have he : a.tmps.getD t undef = .func (.func f) #[] #[] := by
    have := ht.repT
    generalize a.tmps.getD t undef = u at this
    cases this; rfl
  refine ⟨args.map a.eval, ?_, h1, h2⟩
  have hb := hf.1 (args.map a.eval) Λ.w
  have he' : a.eval (.tmp t) = .func (.func f) #[] #[] := he
  simp only [execOp, ho, resolve, he', Deferred.ofValue, Sem.run_bind, Sem.run_pure, Result.andThen_ok, invoke]
  simpa using hb

theorem pall_mem : ∀ {ps : List Bool}, pall ps → ∀ q ∈ ps, q = true
  | [], _, q, h => by simp at h
  | p :: r, h, q, hq => by
    simp only [pall] at h
    cases List.mem_cons.1 hq with
    | inl e => subst e; exact h.1
    | inr e => exact pall_mem h.2 q e

/-- one out of an evaluation -/
theorem evX_step {K : Out → Prop} {aop : AOp} (h : evX P base st K aop) : ∃ out, evX P base st (· = out) aop ∧ K out := by
  unfold evX at h
  split at h
  · split at h
    · split at h
      · split at h
        · rename_i h1 _ _ h2 _ _ h3; refine ⟨_, ?_, h.2⟩; simp only [evX, h1, h2, h3]; exact ⟨h.1, by simp⟩
        · exact h.elim
      · exact h.elim
    · exact h.elim
  · split at h
    · rename_i h1; refine ⟨_, ?_, h.2⟩; simp only [evX, h1]; exact ⟨h.1, by simp⟩
    · exact h.elim
  · exact ⟨_, by simp only [evX], h⟩
  · split at h
    · rename_i ow _ _ _ _ xs h1
      cases ow
      · refine ⟨_, ?_, h.2⟩; simp only [evX, h1]; exact ⟨h.1, by simp⟩
      · obtain ⟨h2, h | h⟩ := h
        · cases xs with
          | nil => refine ⟨_, ?_, h⟩; simp only [evX, h1]; exact ⟨h2, by simp⟩
          | cons y ys => refine ⟨_, ?_, h⟩; simp only [evX, h1]; exact ⟨h2, .inl (by simp)⟩
        · refine ⟨_, ?_, h⟩; simp only [evX, h1]; exact ⟨h2, .inr (by trivial)⟩
    · exact h.elim
  · split at h
    · split at h
      · rename_i h1 _ h2; refine ⟨_, ?_, h.2.2.2⟩; simp only [evX, h1, h2]; exact ⟨h.1, h.2.1, h.2.2.1, by simp⟩
      · split at h
        · rename_i h1 _ _ _ _ h2 _ _ h3; refine ⟨_, ?_, h.2.2.2.2.2⟩; simp only [evX, h1, h2, h3]; exact ⟨h.1, h.2.1, h.2.2.1, h.2.2.2.1, h.2.2.2.2.1, by simp⟩
        · exact h.elim
      · exact h.elim
    · exact h.elim
  · split at h
    · rename_i h1; refine ⟨_, ?_, h.2⟩; simp only [evX, h1]; exact ⟨h.1, by simp⟩
    · exact h.elim
  · obtain ⟨out, h1, h2⟩ := h; exact ⟨out, ⟨out, h1, rfl⟩, h2⟩
  · split at h
    · rename_i h1; obtain ⟨out, h2, h3⟩ := h; refine ⟨out, ?_, h3⟩; simp only [evX, h1]; exact ⟨out, h2, rfl⟩
    · rename_i h1; obtain ⟨out, h2, h3⟩ := h; refine ⟨out, ?_, h3⟩; simp only [evX, h1]; exact ⟨out, h2, rfl⟩
    · exact h.elim
  · exact ⟨_, by simp only [evX], h⟩
  · split at h
    · rename_i h1
      split at h
      · rename_i h2; exact ⟨_, by simp only [evX, h1, h2], h⟩
      · exact h.elim
    · exact h.elim
  · split at h
    · rename_i h1; exact ⟨_, by simp only [evX, h1], h⟩
    · rename_i h1
      split at h
      · rename_i h2; exact ⟨_, by simp only [evX, h1, h2], h⟩
      · exact h.elim
    · exact h.elim
  · rename_i op
    simp only [evX]
    unfold evXN at h
    split at h
    · split at h
      · rename_i h1 h2
        split at h
        · rename_i h3; exact ⟨_, by simp only [evXN, h1, h2, h3]; exact ⟨h.1, by simp⟩, h.2⟩
        · exact h.elim
      · exact h.elim
    · split at h
      · rename_i h1 h2
        split at h
        · rename_i h3; exact ⟨_, by simp only [evXN, h1, h2, h3]; exact ⟨h.1, by simp⟩, h.2⟩
        · exact h.elim
      · exact h.elim
    · split at h
      · rename_i h1
        split at h
        · rename_i h3; exact ⟨_, by simp only [evXN, h1, h3], h⟩
        · exact h.elim
      · exact h.elim
    · split at h
      · rename_i h1 h2
        split at h
        · rename_i h3
          split at h
          · rename_i h4
            split at h
            · rename_i h5 h6; exact ⟨_, by simp only [evXN, h1, h2, h3, h4, h5, h6]; exact ⟨h.1, by simp⟩, h.2⟩
            · exact h.elim
          · rename_i h4; exact ⟨_, by simp only [evXN, h1, h2, h3, h4]; exact ⟨h.1, by simp⟩, h.2⟩
        · exact h.elim
      · exact h.elim
    · split at h
      · rename_i h1 h2
        split at h
        · rename_i h3
          split at h
          · rename_i h4; exact ⟨_, by simp only [evXN, h1, h2, h3, h4], h⟩
          · exact h.elim
        · exact h.elim
      · exact h.elim
    · exact h.elim
  · exact h.elim

theorem res_st {n : Nat} {x v : Ar} (h : resOp P ops o = some (.st n x v)) : ∃ t a b, o.op = .store t a b ∧ szOf P t = some n ∧ opA a = some x ∧ opA b = some v := by
  unfold resOp at h
  (repeat' split at h) <;> simp [Option.bind_eq_some_iff] at h
  all_goals try (obtain ⟨_, _, _, _, h⟩ := h; split at h <;> simp [Option.bind_eq_some_iff] at h; done)
  rename_i t a b hop
  obtain ⟨n', hn, a', ha, b', hb, rfl, rfl, rfl⟩ := h
  exact ⟨t, a, b, hop, hn, ha, hb⟩

theorem res_box {n : Nat} {x : Ar} (h : resOp P ops o = some (.box n x)) : ∃ t a, o.op = .box t a ∧ opA a = some x := by
  unfold resOp at h
  (repeat' split at h) <;> simp [Option.bind_eq_some_iff] at h
  all_goals try (obtain ⟨_, _, _, _, h⟩ := h; split at h <;> simp [Option.bind_eq_some_iff] at h; done)
  rename_i t a hop
  obtain ⟨hn, ha⟩ := h
  exact ⟨t, a, hop, ha⟩

theorem res_alloc {zs : List V} (h : resOp P ops o = some (.alloc zs)) : ∃ t, o.op = .alloc t ∧ zerosOf P t = some zs := by
  unfold resOp at h
  (repeat' split at h) <;> simp [Option.bind_eq_some_iff] at h
  all_goals try (obtain ⟨_, _, _, _, h⟩ := h; split at h <;> simp [Option.bind_eq_some_iff] at h; done)
  rename_i t hop
  exact ⟨t, hop, h⟩

theorem res_bsl {ow : Bool} {sz : Nat} {zs : List (List T)} {ps : List (Nat × Ar)} (h : resOp P ops o = some (.bsl ow sz zs ps)) : Nonempty (BslOp P o sz zs ps) := by
  unfold resOp at h
  (repeat' split at h) <;> simp [Option.bind_eq_some_iff] at h
  all_goals try (obtain ⟨_, _, _, _, h⟩ := h; split at h <;> simp [Option.bind_eq_some_iff] at h; done)
  rename_i t n parts hop _ e ht
  obtain ⟨sz', hs, zv, hzv, z, hz, hle, ps', hps, _, rfl, rfl, rfl⟩ := h
  exact ⟨⟨t, e, n, parts, zv, z, hop, ht, hs, hzv, hz, hle, rfl, hps⟩⟩

theorem res_app {sz bytes : Nat} {x y : Ar} (h : resOp P ops o = some (.app sz bytes x y)) : Nonempty (AppOp P o sz bytes x y) := by
  unfold resOp at h
  (repeat' split at h) <;> simp [Option.bind_eq_some_iff] at h
  all_goals try (obtain ⟨_, _, _, _, h⟩ := h; split at h <;> simp [Option.bind_eq_some_iff] at h; done)
  rename_i args ats hop _ _ x' y' t u ha hat htu _ e ht
  obtain ⟨inf, hi, z, hz, hc, a', hx, b', hy, rfl, rfl, rfl, rfl⟩ := h
  subst htu
  exact ⟨⟨x', y', args, ats, t, e, inf, z, hop, ha, hat, ht, hi, hz, rfl, rfl, by omega, by omega, hx, hy⟩⟩

theorem res_mksl {sz bytes : Nat} {z : List V} {n : Ar} (h : resOp P ops o = some (.mksl sz bytes z n)) : ∃ t e l i, o.op = .makeSlice t (.tmp l) (.tmp l) ∧ P.underlying t = some (.slice e) ∧ P.info? e = some i ∧ zerosOf P e = some z ∧ i.size = sz ∧ i.bytes = bytes ∧ n = .s l := by
  unfold resOp at h
  (repeat' split at h) <;> simp [Option.bind_eq_some_iff] at h
  all_goals try (obtain ⟨_, _, _, _, h⟩ := h; split at h <;> simp [Option.bind_eq_some_iff] at h; done)
  rename_i t l c hop _ e ht hlc
  obtain ⟨inf, hi, z', hz, rfl, rfl, rfl, rfl⟩ := h
  subst hlc
  exact ⟨t, e, l, inf, hop, ht, hi, hz, rfl, rfl, rfl⟩

theorem res_call {f : FuncId} {args' : List Ar} (h : resOp P ops o = some (.call f args')) : ∃ args ats, o.op = .call { callee := .value (.func f), args := args, argTypes := ats } ∧ args.toList.mapM opA = some args' := by
  unfold resOp at h
  (repeat' split at h) <;> simp [Option.bind_eq_some_iff] at h
  all_goals try (obtain ⟨_, _, _, _, h⟩ := h; split at h <;> simp [Option.bind_eq_some_iff] at h; done)
  obtain ⟨ha, rfl⟩ := h
  exact ⟨_, _, by assumption, ha⟩

theorem res_callv {x : Ar} {args' : List Ar} (h : resOp P ops o = some (.callv x args')) : ∃ t args ats, o.op = .call { callee := .value (.tmp t), args := args, argTypes := ats } ∧ args.toList.mapM opA = some args' ∧ x = .s t := by
  unfold resOp at h
  (repeat' split at h) <;> simp [Option.bind_eq_some_iff] at h
  all_goals try (obtain ⟨_, _, _, _, h⟩ := h; split at h <;> simp [Option.bind_eq_some_iff] at h; done)
  rename_i t args ats hop
  rcases h with ⟨h1, h2⟩
  first | exact ⟨t, args, ats, hop, h1, h2.symm⟩ | exact ⟨t, args, ats, hop, h2, h1.symm⟩

theorem FnEv_eq {f : FuncId} {vs : List V} {sto : List (Nat × AObj)} {out : Out} (h : FnEv P f vs base sto (· = out)) : FnAt P f vs base sto out := by
  obtain ⟨out', h1, rfl⟩ := h
  split at h1
  · exact h1
  · exact h1 sto

theorem res_mkmap {kag vag : Bool} (h : resOp P ops o = some (.mkmap kag vag)) : ∃ t, o.op = .makeMap t none := by
  unfold resOp at h
  (repeat' split at h) <;> simp [Option.bind_eq_some_iff] at h
  all_goals try (obtain ⟨_, _, _, _, h⟩ := h; split at h <;> simp [Option.bind_eq_some_iff] at h; done)
  exact ⟨_, by assumption⟩

theorem res_mrange {x : Ar} (h : resOp P ops o = some (.mrange x)) : ∃ t kt et a, o.op = .range t a ∧ P.underlying t = some (.map kt et) ∧ opA a = some x := by
  unfold resOp at h
  (repeat' split at h) <;> simp [Option.bind_eq_some_iff] at h
  all_goals try (obtain ⟨_, _, _, _, h⟩ := h; split at h <;> simp [Option.bind_eq_some_iff] at h; done)
  exact ⟨_, _, _, _, by assumption, by assumption, h⟩
theorem res_lenm {x : Ar} (h : resOp P ops o = some (.lenm x)) : ∃ args ats t kt et a, o.op = .call { callee := .builtin .len, args := args, argTypes := ats } ∧ args[0]? = some a ∧ ats[0]? = some t ∧ P.underlying t = some (.map kt et) ∧ opA a = some x := by
  unfold resOp at h
  (repeat' split at h) <;> simp [Option.bind_eq_some_iff] at h
  all_goals try (obtain ⟨_, _, _, _, h⟩ := h; split at h <;> simp [Option.bind_eq_some_iff] at h; done)
  exact ⟨_, _, _, _, _, _, by assumption, by assumption, by assumption, by assumption, h⟩

theorem evalN_sound {gc : Bool} {nop : NOp} {v : V} {ps : List Bool} (hres : resN P o = some nop) (he : evalN gc st nop = some (v, ps)) (hp : ∀ q ∈ ps, q) : ESound P o gc st v := by
  unfold resN at hres
  split at hres
  · rename_i t x k ok hop
    split at hres
    · rename_i kt et hu
      simp only [Option.bind_eq_bind, Option.bind_eq_some_iff, Option.some.injEq] at hres
      obtain ⟨⟨ks, kag⟩, h1, zv, h2, x', h3, k', h4, rfl⟩ := hres
      exact e_lookup hop hu h1 h2 h3 h4 he hp
    · cases hres
  · split at hres
    · simp only [Option.bind_eq_bind, Option.bind_eq_some_iff, Option.some.injEq] at hres
      obtain ⟨⟨ks, kag⟩, h1, x', h3, k', h4, v', h5, rfl⟩ := hres
      simp [evalN] at he
    · cases hres
  · split at hres
    · simp only [Option.bind_eq_bind, Option.bind_eq_some_iff, Option.some.injEq] at hres
      obtain ⟨⟨ks, kag⟩, h1, zv, h2, x', h3, k', h4, rfl⟩ := hres
      simp [evalN] at he
    · cases hres
  · simp only [Option.bind_eq_bind, Option.bind_eq_some_iff, Option.some.injEq] at hres
    obtain ⟨_, _, _, _, _, _, rfl⟩ := hres
    simp [evalN] at he
  · rename_i op t x y ty hop
    split at hres
    · rename_i e hu
      split at hres
      · simp only [Option.bind_eq_bind, Option.bind_eq_some_iff, Option.some.injEq] at hres
        obtain ⟨x', h3, rfl⟩ := hres
        exact e_eqn2 (neg := false) (by simpa using hop) rfl hu h3 he hp
      · simp only [Option.bind_eq_bind, Option.bind_eq_some_iff, Option.some.injEq] at hres
        obtain ⟨x', h3, rfl⟩ := hres
        exact e_eqn2 (neg := true) (by simpa using hop) rfl hu h3 he hp
      · cases hres
    · rename_i fs hu
      have kt : ∀ {ks : List KSh} {b : Bool}, keySh P t = some (ks, b) → b = true := by
        intro ks b h
        unfold keySh at h
        rw [hu] at h
        simp only at h
        split at h
        · simp only [Option.map_eq_some_iff, Prod.mk.injEq] at h
          obtain ⟨_, _, _, h⟩ := h
          exact h.symm
        · cases h
      split at hres
      · rename_i ks b hk
        simp only [Option.bind_eq_bind, Option.bind_eq_some_iff, Option.some.injEq] at hres
        obtain ⟨x', h3, y', h4, rfl⟩ := hres
        rw [kt hk] at hk
        exact e_eqst (neg := false) (by simpa using hop) hk h3 h4 he hp
      · rename_i ks b hk
        simp only [Option.bind_eq_bind, Option.bind_eq_some_iff, Option.some.injEq] at hres
        obtain ⟨x', h3, y', h4, rfl⟩ := hres
        rw [kt hk] at hk
        exact e_eqst (neg := true) (by simpa using hop) hk h3 h4 he hp
      · cases hres
    · cases hres
  · split at hres
    · split at hres
      · simp only [Option.bind_eq_bind, Option.bind_eq_some_iff, Option.some.injEq] at hres
        obtain ⟨⟨ks, kag⟩, h1, x', h3, k', h4, rfl⟩ := hres
        simp [evalN] at he
      · cases hres
    · cases hres
  · split at hres
    · split at hres
      · simp only [Option.bind_eq_bind, Option.bind_eq_some_iff, Option.some.injEq] at hres
        obtain ⟨x', h3, rfl⟩ := hres
        simp [evalN] at he
      · split at hres
        · split at hres
          · simp only [Option.some.injEq] at hres
            subst hres
            simp [evalN] at he
          · cases hres
        · cases hres
      · cases hres
    · cases hres
  · simp only [Option.bind_eq_bind, Option.bind_eq_some_iff, Option.some.injEq] at hres
    obtain ⟨x', h3, rfl⟩ := hres
    simp [evalN] at he
  · rename_i x hop
    simp only [Option.bind_eq_bind, Option.bind_eq_some_iff, Option.some.injEq] at hres
    obtain ⟨x', h3, rfl⟩ := hres
    exact e_ient hop h3 he hp
  · rename_i f args ats hop
    split at hres
    · rename_i cnt x y hf ha
      simp only [Option.bind_eq_bind, Option.bind_eq_some_iff, Option.some.injEq] at hres
      obtain ⟨x', h3, y', h4, rfl⟩ := hres
      exact e_xtr hop ha hf h3 h4 he hp
    · rename_i x y hf ha
      simp only [Option.bind_eq_bind, Option.bind_eq_some_iff, Option.some.injEq] at hres
      obtain ⟨x', h3, y', h4, rfl⟩ := hres
      exact e_xcm hop ha hf h3 h4 he hp
    · cases hres
  · simp only [Option.some.injEq] at hres
    subst hres
    simp [evalN] at he

theorem evXN_sound {nop : NOp} {out : Out} (hres : resN P o = some nop) (h : evXN st (· = out) nop) : OSound P o base st out := by
  unfold resN at hres
  split at hres
  · split at hres
    · simp only [Option.bind_eq_bind, Option.bind_eq_some_iff, Option.some.injEq] at hres
      obtain ⟨⟨ks, kag⟩, h1, zv, h2, x', h3, k', h4, rfl⟩ := hres
      simp [evXN] at h
    · cases hres
  · rename_i t x k v hop
    split at hres
    · rename_i kt et hu
      simp only [Option.bind_eq_bind, Option.bind_eq_some_iff, Option.some.injEq] at hres
      obtain ⟨⟨ks, kag⟩, h1, x', h3, k', h4, v', h5, rfl⟩ := hres
      simp only [evXN] at h
      split at h
      · rename_i q cs hx hk
        split at h
        · rename_i kag' es sx hes
          obtain ⟨⟨rfl, h6⟩, rfl⟩ := h
          exact o_mupd hop hu h1 h3 h4 h5 hx hk hes h6
        · exact h.elim
      · exact h.elim
    · cases hres
  · rename_i t x k hop
    split at hres
    · rename_i kt et hu
      simp only [Option.bind_eq_bind, Option.bind_eq_some_iff, Option.some.injEq] at hres
      obtain ⟨⟨ks, kag⟩, h1, zv, h2, x', h3, k', h4, rfl⟩ := hres
      simp only [evXN] at h
      split at h
      · rename_i q cs hx hk
        split at h
        · rename_i kag' es c bs hes
          split at h
          · rename_i i hm
            split at h
            · rename_i e b he hb
              obtain ⟨⟨rfl, h6⟩, rfl⟩ := h
              exact (o_ment hop hu h1 h2 h3 h4 hx hk hes h6).1 i e b hm he hb
            · exact h.elim
          · rename_i hm
            obtain ⟨⟨rfl, h6⟩, rfl⟩ := h
            exact (o_ment hop hu h1 h2 h3 h4 hx hk hes h6).2 hm
        · exact h.elim
      · exact h.elim
    · cases hres
  · rename_i t x s v hop
    simp only [Option.bind_eq_bind, Option.bind_eq_some_iff, Option.some.injEq] at hres
    obtain ⟨x', h3, s', h4, v', h5, rfl⟩ := hres
    simp only [evXN] at h
    split at h
    · rename_i q kd z hx hs
      split at h
      · rename_i kag es c bs hes
        split at h
        · rename_i i hi
          subst h
          exact o_ests hop h3 h4 h5 hx hs hes hi
        · exact h.elim
      · exact h.elim
    · exact h.elim
  · split at hres
    · split at hres
      · simp only [Option.bind_eq_bind, Option.bind_eq_some_iff, Option.some.injEq] at hres
        obtain ⟨x', h3, rfl⟩ := hres
        simp [evXN] at h
      · simp only [Option.bind_eq_bind, Option.bind_eq_some_iff, Option.some.injEq] at hres
        obtain ⟨x', h3, rfl⟩ := hres
        simp [evXN] at h
      · cases hres
    · split at hres
      · simp only [Option.bind_eq_bind, Option.bind_eq_some_iff, Option.some.injEq] at hres
        obtain ⟨x', h3, y', h4, rfl⟩ := hres
        simp [evXN] at h
      · simp only [Option.bind_eq_bind, Option.bind_eq_some_iff, Option.some.injEq] at hres
        obtain ⟨x', h3, y', h4, rfl⟩ := hres
        simp [evXN] at h
      · cases hres
    · cases hres
  · rename_i args ats hop
    split at hres
    · rename_i x k ty ha hat
      split at hres
      · rename_i kt et hu
        simp only [Option.bind_eq_bind, Option.bind_eq_some_iff, Option.some.injEq] at hres
        obtain ⟨⟨ks, kag⟩, h1, x', h3, k', h4, rfl⟩ := hres
        simp only [evXN] at h
        split at h
        · rename_i q cs hx hk
          split at h
          · rename_i kag' es sx hes
            obtain ⟨⟨rfl, h6⟩, rfl⟩ := h
            exact o_mdel hop ha hat hu h1 h3 h4 hx hk hes h6
          · exact h.elim
        · exact h.elim
      · cases hres
    · cases hres
  · rename_i args ats hop
    split at hres
    · rename_i x ty ha hat
      split at hres
      · rename_i kt et hu
        simp only [Option.bind_eq_bind, Option.bind_eq_some_iff, Option.some.injEq] at hres
        obtain ⟨x', h3, rfl⟩ := hres
        simp only [evXN] at h
        split at h
        · rename_i q hx
          split at h
          · rename_i kag es sx hes
            subst h
            exact o_mclr hop ha hat hu h3 hx hes
          · exact h.elim
        · exact h.elim
      · split at hres
        · split at hres
          · simp only [Option.some.injEq] at hres
            subst hres
            simp [evXN] at h
          · cases hres
        · cases hres
      · cases hres
    · cases hres
  · simp only [Option.bind_eq_bind, Option.bind_eq_some_iff, Option.some.injEq] at hres
    obtain ⟨x', h3, rfl⟩ := hres
    simp [evXN] at h
  · simp only [Option.bind_eq_bind, Option.bind_eq_some_iff, Option.some.injEq] at hres
    obtain ⟨x', h3, rfl⟩ := hres
    simp [evXN] at h
  · split at hres
    · simp only [Option.bind_eq_bind, Option.bind_eq_some_iff, Option.some.injEq] at hres
      obtain ⟨x', h3, y', h4, rfl⟩ := hres
      simp [evXN] at h
    · simp only [Option.bind_eq_bind, Option.bind_eq_some_iff, Option.some.injEq] at hres
      obtain ⟨x', h3, y', h4, rfl⟩ := hres
      simp [evXN] at h
    · cases hres
  · simp only [Option.some.injEq] at hres
    subst hres
    simp [evXN] at h

theorem evX_sound {aop : AOp} {out : Out} (hres : resOp P ops o = some aop) (h : evX P base st (· = out) aop) : OSound P o base st out := by
  unfold evX at h
  split at h
  · obtain ⟨t, a, b, hop, hn, ha, hb⟩ := res_st hres
    split at h
    · rename_i k off hx
      split at h
      · rename_i cs hk
        split at h
        · rename_i vs hvs
          obtain ⟨⟨h1, h2⟩, rfl⟩ := h
          exact o_store hop hn ha hb hx hk hvs (of_decide_eq_true h1) h2
        · exact h.elim
      · exact h.elim
    · exact h.elim
  · obtain ⟨t, a, hop, ha⟩ := res_box hres
    split at h
    · rename_i vs hvs
      obtain ⟨_, rfl⟩ := h
      exact o_box (n := 0) hop ha hvs
    · exact h.elim
  · obtain ⟨t, hop, hz⟩ := res_alloc hres
    subst h
    exact o_alloc hop hz
  · obtain ⟨B⟩ := res_bsl hres
    split at h
    · rename_i hx
      obtain ⟨_, h⟩ := h
      split at h
      · rcases h with h | h
        · split at h
          · next he => subst h; exact o_bsl_nil B hx (by simpa using he)
          · subst h; exact o_bsl_own B hx
        · subst h; exact o_bsl B hx
      · subst h; exact o_bsl B hx
    · exact h.elim
  · obtain ⟨A⟩ := res_app hres
    split at h
    · rename_i ys hy
      split at h
      · rename_i hx
        obtain ⟨h1, h2, h3, rfl⟩ := h
        exact o_app_nil A hx hy h1 h2 h3
      · rename_i k s xs hx
        split at h
        · rename_i n hk
          obtain ⟨rfl, rfl, h1, h2, h3, rfl⟩ := h
          exact o_app_own A hx hk hy h1 h2 h3
        · exact h.elim
      · exact h.elim
    · exact h.elim
  · obtain ⟨t, e, l, i, hop, ht, hi, hz, rfl, rfl, rfl⟩ := res_mksl hres
    split at h
    · rename_i m hm
      obtain ⟨⟨h1, h2, h3, h4⟩, rfl⟩ := h
      exact o_mksl hop ht hi hz hm h1 h2 h3
    · exact h.elim
  · obtain ⟨args, ats, hop, ha⟩ := res_call hres
    exact o_call hop ha (FnEv_eq h)
  · obtain ⟨t, args, ats, hop, ha, rfl⟩ := res_callv hres
    split at h
    · rename_i f hv; exact o_callv0 hop ha hv (FnEv_eq h)
    · rename_i f caps hv; exact o_callv hop ha hv (FnEv_eq h)
    · exact h.elim
  · obtain ⟨t, hop⟩ := res_mkmap hres
    subst h
    exact o_mkmap hop
  · obtain ⟨t, kt, et, a, hop, hu, hx⟩ := res_mrange hres
    split at h
    · rename_i q hv
      split at h
      · rename_i kag es c bs hes
        subst h
        exact o_mrange hop hu hx hv hes
      · exact h.elim
    · exact h.elim
  · obtain ⟨args, ats, t, kt, et, a, hop, ha, hat, hu, hx⟩ := res_lenm hres
    split at h
    · rename_i hv
      subst h
      exact o_lenm (n := 0) hop ha hat hu hx (.inl ⟨hv, rfl⟩)
    · rename_i q hv
      split at h
      · rename_i kag es sx hes
        subst h
        exact o_lenm hop ha hat hu hx (.inr ⟨q, kag, es, sx, hv, hes, rfl⟩)
      · exact h.elim
    · exact h.elim
  · exfalso
    unfold resOp at hres
    (repeat' split at hres) <;> simp [Option.bind_eq_some_iff] at hres
    all_goals try (obtain ⟨_, _, _, _, hres⟩ := hres; split at hres <;> simp [Option.bind_eq_some_iff] at hres; done)
  · exact h.elim

theorem all_cases {aop : AOp} (h : resAll P ops o = some aop) : resOp P ops o = some aop ∨ ∃ nop, aop = .nw nop ∧ resN P o = some nop := by
  unfold resAll at h
  split at h
  · rename_i x hx; simp at h; subst h; exact .inl hx
  · simp only [Option.map_eq_some_iff] at h
    obtain ⟨nop, h1, rfl⟩ := h
    exact .inr ⟨nop, rfl, h1⟩
theorem res_all_op {aop : AOp} (h : resAll P ops o = some aop) (hn : ∀ nop, aop ≠ .nw nop) : resOp P ops o = some aop := by
  rcases all_cases h with h' | ⟨nop, h0, _⟩
  · exact h'
  · exact absurd h0 (hn nop)
theorem res_sclr {sz : Nat} {z : List V} {x : Ar} (h : resAll P ops o = some (.nw (.sclr sz z x))) : ∃ ty e a args ats, o.op = .call { callee := .builtin .clear, args := args, argTypes := ats } ∧ args.toList = [a] ∧ ats[0]? = some ty ∧ P.underlying ty = some (.slice e) ∧
    szOf P e = some sz ∧ zerosOf P e = some z ∧ z.all V.cellOk = true ∧ opA a = some x := by
  rcases all_cases h with h' | ⟨nop, h0, h'⟩
  · exfalso
    unfold resOp at h'
    (repeat' split at h') <;> simp [Option.bind_eq_some_iff] at h'
    all_goals try (obtain ⟨_, _, _, _, h'⟩ := h'; split at h' <;> simp [Option.bind_eq_some_iff] at h'; done)
  · injection h0 with h0
    subst h0
    unfold resN at h'
    (repeat' split at h') <;> simp [Option.bind_eq_some_iff] at h'
    obtain ⟨rfl, rfl, rfl⟩ := h'
    exact ⟨_, _, _, _, _, by assumption, by assumption, by assumption, by assumption, by assumption, by assumption, by assumption, by assumption⟩

theorem evY_sound {aop : AOp} {out : Out} (hres : resAll P ops o = some aop) (h : YOut st base aop out) : OSound P o base st out := by
  cases h with
  | stG hx hk hw hv hn ho hc =>
    obtain ⟨t, a, b, hop, hs, ha, hb⟩ := res_st (res_all_op hres (by simp))
    exact o_stG hop hs ha hb hx hk hw hv hn ho hc
  | stF hx hk hi hv hn ho hc =>
    obtain ⟨t, a, b, hop, hs, ha, hb⟩ := res_st (res_all_op hres (by simp))
    exact o_stF hop hs ha hb hx hk hi hv hn ho hc
  | boxF hk hv hn hc =>
    obtain ⟨t, a, hop, ha⟩ := res_box (res_all_op hres (by simp))
    exact o_boxF hop ha hv hk
  | allocF hk =>
    obtain ⟨t, hop, hz⟩ := res_alloc (res_all_op hres (by simp))
    exact o_allocF hop hz hk
  | appF hx hy hk hi hl h1 h2 =>
    obtain ⟨A⟩ := res_app (res_all_op hres (by simp))
    exact o_appF A hx hk hi hy hl h1 h2
  | appN hx hy hc h1 h2 =>
    obtain ⟨A⟩ := res_app (res_all_op hres (by simp))
    exact o_appN A hx hy h1 h2
  | appG hx hk hw hl hy hc h1 h2 =>
    obtain ⟨A⟩ := res_app (res_all_op hres (by simp))
    exact o_appG A hx hk hw hl hy hc h1 h2
  | bslO h =>
    obtain ⟨B⟩ := res_bsl (res_all_op hres (by simp))
    exact o_bslO B h
  | bslF h hk h0 =>
    obtain ⟨B⟩ := res_bsl (res_all_op hres (by simp))
    exact o_bslF B h hk h0
  | clrG hx hk hw ho =>
    obtain ⟨ty, e, a, args, ats, hop, ha, hat, hu, hs, hz, hzc, hx'⟩ := res_sclr hres
    exact o_clrG hop ha hat hu hs hz hzc hx' hx hk hw ho

theorem evalE_all {gc : Bool} {aop : AOp} {v : V} {ps : List Bool} (hres : resAll P ops o = some aop) (he : evalE gc st aop = some (v, ps)) (hp : ∀ q ∈ ps, q) : ESound P o gc st v := by
  rcases all_cases hres with h | ⟨nop, rfl, h⟩
  · exact evalE_sound h he hp
  · exact evalN_sound h he hp
theorem evX_all {aop : AOp} {out : Out} (hres : resAll P ops o = some aop) (h : evX P base st (· = out) aop ∨ evY base st (· = out) aop) : OSound P o base st out := by
  rcases h with h | ⟨out', h, rfl⟩
  · rcases all_cases hres with h' | ⟨nop, rfl, h'⟩
    · exact evX_sound h' h
    · exact evXN_sound h' h
  · exact evY_sound hres h
theorem evXY_step {K : Out → Prop} {aop : AOp} (h : evX P base st K aop ∨ evY base st K aop) : ∃ out, (evX P base st (· = out) aop ∨ evY base st (· = out) aop) ∧ K out := by
  rcases h with h | ⟨out, h1, h2⟩
  · obtain ⟨out, h1, h2⟩ := evX_step h
    exact ⟨out, .inl h1, h2⟩
  · exact ⟨out, .inr ⟨out, h1, rfl⟩, h2⟩
theorem res_call_all {f : FuncId} {args' : List Ar} (h : resAll P ops o = some (.call f args')) : ∃ args ats, o.op = .call { callee := .value (.func f), args := args, argTypes := ats } ∧ args.toList.mapM opA = some args' := by
  rcases all_cases h with h' | ⟨nop, h0, h'⟩
  · exact res_call h'
  · cases h0

theorem callG_step {gc : Bool} {K : Out → Prop} {aop : AOp} (h : callG P gc base st K aop) : ∃ out, callG P gc base st (· = out) aop ∧ K out := by
  unfold callG at h ⊢
  split at h
  · obtain ⟨out, h1, h2, h3⟩ := h
    exact ⟨_, ⟨out, h1, h2, rfl⟩, h3⟩
  · exact h.elim

theorem evO_step {ao : AO} {K : Out → Prop} (h : evO P base st ao K) : ∃ out, evO P base st ao (· = out) ∧ K out := by
  unfold evO at h
  split at h
  · rename_i hg
    unfold evU at h
    split at h
    · rename_i v ps he
      refine ⟨_, ?_, h.2⟩
      simp only [evO, hg, evU, he]; exact ⟨h.1, by simp⟩
    · rename_i he
      obtain ⟨out, h1, h2⟩ := evXY_step h
      refine ⟨out, ?_, h2⟩
      simp only [evO, hg, evU, he]; exact h1
  · rename_i s want hg
    split at h
    · exact h.elim
    · rename_i gc hc
      split at h
      · rename_i v ps he
        refine ⟨_, ?_, h.2⟩
        simp only [evO, hg, hc, he]; exact ⟨h.1, by simp⟩
      · rename_i he
        rcases h with h | h
        · obtain ⟨out, h1, h2⟩ := callG_step h
          refine ⟨out, ?_, h2⟩
          simp only [evO, hg, hc, he]; exact Or.inl h1
        cases gc with
        | true =>
          obtain ⟨out, h1, h2⟩ := evXY_step (h.1 rfl)
          refine ⟨out, ?_, h2⟩
          simp only [evO, hg, hc, he]; exact Or.inr ⟨fun _ => h1, by simp⟩
        | false =>
          refine ⟨_, ?_, h.2 rfl⟩
          simp only [evO, hg, hc, he]; exact Or.inr ⟨by simp, fun _ => by simp⟩

theorem yielded_bool {C : Ctx} {Λ : L} {a : Act} (hr : Rel C Λ st a) {j s : Nat} (hj : (ops[j]?).bind (·.dst) = some s) {want gc : Bool} (hg : gcond want (look st.env s) = some gc) (hlt : s < C.n) :
    (yielded ops a.tmps j == some want) = gc := by
  have hs := hr.env s
  have hget : a.tmps[s]? = some (a.tmps.getD s undef) := by
    rw [Array.getD_eq_getD_getElem?]
    rw [Array.getElem?_eq_getElem (by rw [hr.size]; exact hlt)]
    simp
  unfold yielded
  rw [hj]
  simp only [Option.bind_some, hget]
  generalize a.tmps.getD s undef = u at hs
  unfold gcond at hg
  split at hg
  · rename_i b hl
    rw [hl] at hs
    have := hs.repT.bool_inv
    subst this
    simp at hg; subst hg
    cases b <;> cases want <;> rfl
  · rename_i c b hl
    rw [hl] at hs
    simp at hg
    cases hs with
    | gd h1 h2 =>
      cases c with
      | true =>
        have := (h1 rfl).repT.bool_inv
        subst this; subst hg
        cases b <;> cases want <;> rfl
      | false =>
        have := h2 rfl
        subst this; subst hg
        cases b <;> cases want <;> rfl
  · rename_i hl
    rw [hl] at hs
    simp at hg; subst hg
    cases hs with
    | gd h1 h2 =>
      have := h2 rfl
      subst this
      cases want <;> rfl
  · simp at hg

/-- an operation of a region, guard and all -/
theorem evO_sound {ao : AO} {out : Out} {i : Nat} (ho : ops[i]? = some o) (hres : resO P ops o = some ao) (h : evO P base st ao (· = out)) {C : Ctx} {Λ : L} {a : Act} {next : Act → World → Prop} {Q : Exit → Act → World → Prop} (hC : C.P = P) (hr : Rel C Λ st a)
    (hdst : ∀ (j : Nat) (p : Oper) (d : Nat), ops[j]? = some p → p.dst = some d → d < C.n)
    (hle : base + out.n ≤ Λ.nxt) (hfree : ∀ k, base ≤ k → k < base + out.n → k < Λ.nxt ∧ Free Λ k ∧ aget st.s.sto k = none)
    (hnext : ∀ v Λ', Kp Λ Λ' → Λ'.nxt = Λ.nxt → RelS Λ' (st.s.app out) → RelV Λ' v out.v → (∀ k, Free Λ k → aget st.s.sto k = none → (base + out.n ≤ k ∨ (k < base ∧ out.rd = false)) → Free Λ' k) → next (a.put o.dst v) Λ'.w) :
    ao.dst = o.dst ∧ wpOp P ops Q i next a Λ.w := by
  unfold resO at hres
  split at hres
  · simp at hres
  · rename_i aop hop
    split at hres
    · rename_i hg
      simp at hres; subst hres
      refine ⟨rfl, ?_⟩
      have hw : Region.wanted o (yielded ops a.tmps) = true := by simp [Region.wanted, hg]
      simp only [wpOp, ho, hw, if_true]
      refine .inl ?_
      simp only [evO, evU] at h
      split at h
      · rename_i v ps he
        obtain ⟨h1, rfl⟩ := h
        exact OSound.of_E (evalE_all hop he (pall_mem h1)) C Λ a next Q hC hr hle hfree hnext
      · exact evX_all hop h C Λ a next Q hC hr hle hfree hnext
    · rename_i j want hg
      split at hres
      · rename_i s hs
        simp at hres; subst hres
        refine ⟨rfl, ?_⟩
        simp only [evO] at h
        split at h
        · exact h.elim
        · rename_i gc hc
          have hlt : s < C.n := by
            cases hop' : ops[j]? with
            | none => rw [hop'] at hs; simp at hs
            | some p => rw [hop'] at hs; exact hdst j p s hop' (by simpa using hs)
          have hy := yielded_bool hr hs hc hlt
          have hw : Region.wanted o (yielded ops a.tmps) = gc := by simp only [Region.wanted, hg]; exact hy
          simp only [wpOp, ho, hw]
          split at h
          · rename_i v ps he
            obtain ⟨h1, rfl⟩ := h
            cases gc with
            | true =>
              simp only [if_true]
              refine .inl ?_
              have hps : ∀ q ∈ ps, q = true := by
                intro q hq
                have := pall_mem h1 (!true || q) (List.mem_map.2 ⟨q, hq, rfl⟩)
                simpa using this
              refine OSound.of_E (r := looksE st aop) (evalE_all hop he hps) C Λ a next Q hC hr (by simp at hle ⊢; omega) (fun k h1 h2 => by simp at h2; omega) fun v' Λ' a1 a2 a3 a4 a5 => hnext v' Λ' a1 a2 a3 (.gd (fun _ => a4) (by simp)) a5
            | false =>
              simp only [Bool.false_eq_true, if_false]
              exact hnext undef Λ (Kp.refl _) rfl hr.s (.gd (by simp) (fun _ => rfl)) (fun _ h _ _ => h)
          · rcases h with h | h
            · unfold callG at h
              split at h
              · rename_i fid args0 _
                obtain ⟨out0, k1, ⟨k2, k3⟩, rfl⟩ := h
                obtain ⟨args, ats, hop', ha⟩ := res_call_all hop
                cases gc with
                | true =>
                  simp only [if_true]
                  have hf : FnAt P fid (argsV st args0) base st.s.sto out0 := by
                    have := k1 rfl
                    split at this
                    · exact this
                    · exact this _
                  have hso : OSound P o base st out0 := o_call hop' ha hf
                  refine .inl (hso C Λ a next Q hC hr hle hfree fun v' Λ' a1 a2 a3 a4 a5 => hnext v' Λ' a1 a2 a3 (.gd (fun _ => a4) (by simp)) a5)
                | false =>
                  simp only [Bool.false_eq_true, if_false]
                  refine hnext undef Λ (Kp.refl _) rfl ?_ (.gd (by simp) (fun _ => rfl)) (fun _ h _ _ => h)
                  simp only [S.app, k2, asets]
                  exact hr.s
              · exact h.elim
            cases gc with
            | true =>
              simp only [if_true]
              exact .inl (evX_all hop (h.1 rfl) C Λ a next Q hC hr hle hfree hnext)
            | false =>
              simp only [Bool.false_eq_true, if_false]
              have := h.2 rfl
              subst this
              exact hnext undef Λ (Kp.refl _) rfl hr.s (.gd (by simp) (fun _ => rfl)) (fun _ h _ _ => h)
      · simp at hres

end
end Go.GB


/-
  GbQ: regions in the order of the text.
-/
namespace Go.GB
section
variable {P : Program} {ops : Array Oper}

/-- a region evaluated: what each operation does -/
def Ch (P : Program) : Nat → St → List AO → List Out → Nat → St → Prop
  | base, st, [], [], b', s' => b' = base ∧ s' = st
  | base, st, ao :: r, out :: os, b', s' => evO P base st ao (· = out) ∧ Ch P (base + out.n) (st.app ao.dst out) r os b' s'
  | _, _, _, _, _, _ => False

def flags : List Out → List (Bool × Bool)
  | [] => []
  | o :: r => (o.rd, !o.ob.isEmpty || decide (0 < o.n)) :: flags r

theorem evR_chain : ∀ {aos : List AO} {base : Nat} {st : St} {fl : List (Bool × Bool)} {K : Nat → St → List (Bool × Bool) → Prop}, evR P base st aos fl K → ∃ outs b' st', Ch P base st aos outs b' st' ∧ K b' st' (fl ++ flags outs)
  | [], base, st, fl, K, h => ⟨[], base, st, ⟨rfl, rfl⟩, by simpa [flags, evR] using h⟩
  | ao :: r, base, st, fl, K, h => by
    obtain ⟨out, h1, h2⟩ := evO_step h
    obtain ⟨outs, b', st', h3, h4⟩ := evR_chain h2
    exact ⟨out :: outs, b', st', ⟨h1, h3⟩, by simpa [flags] using h4⟩

theorem Ch.le : ∀ {aos : List AO} {base : Nat} {st : St} {outs : List Out} {b' : Nat} {s' : St}, Ch P base st aos outs b' s' → base ≤ b'
  | [], _, _, [], _, _, h => by rw [h.1]; exact Nat.le_refl _
  | _ :: r, _, _, _ :: os, _, _, h => by have := Ch.le h.2; omega
  | [], _, _, _ :: _, _, _, h => h.elim
  | _ :: _, _, _, [], _, _, h => h.elim

/-- names of what an operation sets -/
def NmOk (base : Nat) (st : St) (out : Out) : Prop := ∀ k o, (k, o) ∈ out.ob → aget st.s.sto k ≠ none ∨ (base ≤ k ∧ k < base + out.n)

theorem evXN_names {base : Nat} {st : St} {op : NOp} {out : Out} (h : evXN st (· = out) op) : NmOk base st out := by
  unfold evXN at h
  split at h
  · split at h
    · split at h
      · rename_i hk
        obtain ⟨_, rfl⟩ := h; intro j ob hj; simp at hj; rw [hj.1, hk]; exact .inl (by simp)
      · exact h.elim
    · exact h.elim
  · split at h
    · split at h
      · rename_i hk
        obtain ⟨_, rfl⟩ := h; intro j ob hj; simp at hj; rw [hj.1, hk]; exact .inl (by simp)
      · exact h.elim
    · exact h.elim
  · split at h
    · split at h
      · rename_i hk
        subst h; intro j ob hj; simp at hj; rw [hj.1, hk]; exact .inl (by simp)
      · exact h.elim
    · exact h.elim
  · split at h
    · split at h
      · rename_i hk
        split at h
        · split at h
          · obtain ⟨_, rfl⟩ := h; intro j ob hj; simp at hj; rw [hj.1, hk]; exact .inl (by simp)
          · exact h.elim
        · obtain ⟨_, rfl⟩ := h; intro j ob hj; simp at hj; rw [hj.1, hk]; exact .inl (by simp)
      · exact h.elim
    · exact h.elim
  · split at h
    · split at h
      · rename_i hk
        split at h
        · subst h; intro j ob hj; simp at hj; rw [hj.1, hk]; exact .inl (by simp)
        · exact h.elim
      · exact h.elim
    · exact h.elim
  · exact h.elim

theorem evX_names {base : Nat} {st : St} {aop : AOp} {out : Out} (h : evX P base st (· = out) aop) : NmOk base st out := by
  unfold evX at h
  split at h
  · split at h
    · split at h
      · rename_i hk
        split at h
        · obtain ⟨_, rfl⟩ := h; intro j ob hj; simp at hj; rw [hj.1, hk]; exact .inl (by simp)
        · exact h.elim
      · exact h.elim
    · exact h.elim
  · split at h
    · obtain ⟨_, rfl⟩ := h; intro j ob hj; simp at hj; exact .inr (by simp; omega)
    · exact h.elim
  · subst h; intro j ob hj; simp at hj; exact .inr (by simp; omega)
  · split at h
    · obtain ⟨_, h⟩ := h
      split at h
      · rcases h with h | h
        · split at h
          · subst h; intro j ob hj; simp at hj
          · subst h; intro j ob hj; simp at hj; exact .inr (by simp; omega)
        · subst h; intro j ob hj; simp at hj
      · subst h; intro j ob hj; simp at hj
    · exact h.elim
  · split at h
    · split at h
      · obtain ⟨_, _, _, rfl⟩ := h; intro j ob hj; simp at hj; exact .inr (by simp; omega)
      · split at h
        · rename_i hk
          obtain ⟨_, _, _, _, _, rfl⟩ := h; intro j ob hj; simp at hj; rw [hj.1, hk]; exact .inl (by simp)
        · exact h.elim
      · exact h.elim
    · exact h.elim
  · split at h
    · obtain ⟨_, rfl⟩ := h; intro j ob hj; simp at hj; exact .inr (by simp; omega)
    · exact h.elim
  · exact (FnEv_eq h).2.1
  · split at h
    · exact (FnEv_eq h).2.1
    · exact (FnEv_eq h).2.1
    · exact h.elim
  · subst h; intro j ob hj; simp at hj; exact .inr (by simp; omega)
  · split at h
    · split at h
      · subst h; intro j ob hj; simp at hj; exact .inr (by simp; omega)
      · exact h.elim
    · exact h.elim
  · split at h
    · subst h; intro j ob hj; simp at hj
    · split at h
      · subst h; intro j ob hj; simp at hj
      · exact h.elim
    · exact h.elim
  · exact evXN_names h
  · exact h.elim

theorem evY_names {base : Nat} {st : St} {aop : AOp} {out : Out} (h : YOut st base aop out) : NmOk base st out := by
  cases h with
  | stG hx hk | stF hx hk | boxF hk | allocF hk | appG hx hk | clrG hx hk => intro j ob hj; simp at hj; rw [hj.1, hk]; exact .inl (by simp)
  | appF hx hy hk => intro j ob hj; simp at hj; rw [hj.1, hk]; exact .inl (by simp)
  | bslF hx hk => intro j ob hj; simp at hj; rw [hj.1, hk]; exact .inl (by simp)
  | appN | bslO => intro j ob hj; simp at hj; exact .inr (by simp; omega)
theorem evXY_names {base : Nat} {st : St} {aop : AOp} {out : Out} (h : evX P base st (· = out) aop ∨ evY base st (· = out) aop) : NmOk base st out := by
  rcases h with h | ⟨out', h, rfl⟩
  · exact evX_names h
  · exact evY_names h

theorem evO_names {base : Nat} {st : St} {ao : AO} {out : Out} (h : evO P base st ao (· = out)) : NmOk base st out := by
  unfold evO at h
  split at h
  · unfold evU at h
    split at h
    · obtain ⟨_, rfl⟩ := h; intro j ob hj; simp at hj
    · exact evXY_names h
  · split at h
    · exact h.elim
    · rename_i gc _
      split at h
      · obtain ⟨_, rfl⟩ := h; intro j ob hj; simp at hj
      · rcases h with h | h
        · unfold callG at h
          split at h
          · obtain ⟨out0, _, ⟨k2, _⟩, rfl⟩ := h; intro j ob hj; simp [k2] at hj
          · exact h.elim
        cases gc with
        | true => exact evXY_names (h.1 rfl)
        | false => have := h.2 rfl; subst this; intro j ob hj; simp at hj

theorem aget_asets_none : ∀ (ob : List (Nat × AObj)) (s : List (Nat × AObj)) (k : Nat), aget s k = none → (∀ o, (k, o) ∉ ob) → aget (asets s ob) k = none
  | [], s, k, h, _ => h
  | (j, o) :: r, s, k, h, hn => by
    refine aget_asets_none r (aset s j o) k ?_ (fun o' ho' => hn o' (List.mem_cons_of_mem _ ho'))
    rw [aget_aset]
    have : j ≠ k := by rintro rfl; exact hn o (by simp)
    simp [this, h]

/-- names that are free stay free -/
theorem free_after {base : Nat} {st : St} {out : Out} (hn : NmOk base st out) {k : Nat} (hk : aget st.s.sto k = none) (ho : k < base ∨ base + out.n ≤ k) (d : Option Nat) : aget (st.app d out).s.sto k = none := by
  refine aget_asets_none _ _ _ hk fun o h => ?_
  rcases hn k o h with h | h
  · exact h hk
  · omega

def DstOk (C : Ctx) (ops : Array Oper) : Prop := ∀ (j : Nat) (p : Oper) (d : Nat), ops[j]? = some p → p.dst = some d → d < C.n

theorem resOs_at : ∀ {l : List Oper} {aos : List AO}, resOs P ops l = some aos → l.length = aos.length ∧ ∀ (j : Nat) (o : Oper) (ao : AO), l[j]? = some o → aos[j]? = some ao → resO P ops o = some ao
  | [], aos, h => by simp [resOs] at h; subst h; simp
  | o :: r, aos, h => by
    simp only [resOs] at h
    split at h
    · rename_i a l h1 h2
      simp at h; subst h
      obtain ⟨i1, i2⟩ := resOs_at h2
      refine ⟨by simp [i1], fun j p ao hp ha => ?_⟩
      cases j with
      | zero => simp at hp ha; subst hp; subst ha; exact h1
      | succ j => exact i2 j p ao (by simpa using hp) (by simpa using ha)
    · simp at h

theorem seq_ops {C : Ctx} (hC : C.P = P) (hd : DstOk C ops) {aos : List AO} (hres : resOs P ops ops.toList = some aos) {Q : Exit → Act → World → Prop} {b' : Nat} {st' : St} (m : Nat) :
    ∀ (r : List AO) (i : Nat) (base : Nat) (st : St) (outs : List Out) (Λ : L) (a : Act), aos.drop i = r → Ch P base st r outs b' st' → Rel C Λ st a → Λ.nxt = m → b' ≤ m →
      (∀ k, base ≤ k → k < m → Free Λ k ∧ aget st.s.sto k = none) → (∀ (a' : Act) (Λ' : L), Rel C Λ' st' a' → Λ'.nxt = m → Q .normal a' Λ'.w) → wpOps P ops Q (List.range' i r.length) a Λ.w
  | [], i, base, st, outs, Λ, a, _, hch, hr, hm, _, _, hq => by
    cases outs with
    | nil => obtain ⟨rfl, rfl⟩ := hch; simp only [List.length_nil, List.range'_zero, wpOps]; exact hq a Λ hr hm
    | cons _ _ => exact hch.elim
  | ao :: r, i, base, st, outs, Λ, a, hdrop, hch, hr, hm, hb, hf, hq => by
    cases outs with
    | nil => exact hch.elim
    | cons out os =>
      obtain ⟨h1, h2⟩ := hch
      obtain ⟨hlen, hat⟩ := resOs_at hres
      have hi : i < aos.length := by
        rcases Nat.lt_or_ge i aos.length with h | h
        · exact h
        · rw [List.drop_eq_nil_of_le h] at hdrop; cases hdrop
      have hao : aos[i]? = some ao := by
        have := List.getElem?_drop (xs := aos) (i := i) (j := 0)
        rw [hdrop] at this; simpa using this.symm
      have hopi : i < ops.size := by rw [← Array.length_toList, hlen]; exact hi
      have ho : ops[i]? = some ops[i] := by simp [hopi]
      have hro := hat i ops[i] ao (by simp) hao
      have hle := Ch.le h2
      have hnm := evO_names h1
      simp only [List.length_cons, List.range'_succ]
      rw [wpOps_cons]
      refine (evO_sound ho hro h1 hC hr hd (by omega) (fun k k1 k2 => ?_) fun v Λ' k1 k2 k3 k4 k5 => ?_).2
      · obtain ⟨f1, f2⟩ := hf k k1 (by omega)
        exact ⟨by omega, f1, f2⟩
      · have hdst : ao.dst = ops[i].dst := (evO_sound (next := fun _ _ => True) (Q := Q) ho hro h1 hC hr hd (by omega) (fun k k1 k2 => by
          obtain ⟨f1, f2⟩ := hf k k1 (by omega); exact ⟨by omega, f1, f2⟩) (fun _ _ _ _ _ _ _ => trivial)).1
        have hr' : Rel C Λ' (st.app ao.dst out) (a.put ao.dst v) := hr.step k1 (fun x hx => hd i _ x ho (by rw [← hdst]; exact hx)) k4 k3
        rw [← hdst]
        refine seq_ops hC hd hres m r (i + 1) _ _ os Λ' _ (by rw [← List.drop_drop, hdrop]; rfl) h2 hr' (by omega) hb (fun k k6 k7 => ?_) hq
        obtain ⟨f1, f2⟩ := hf k (by omega) k7
        exact ⟨k5 k f1 f2 (.inl k6), free_after hnm f2 (.inr k6) _⟩

end
end Go.GB


/-
  GbR: regions whose order is drawn: what an operation does depends only on what it reads.
-/
namespace Go.GB

def Ar.slots : Ar → List Nat
  | .s t => [t]
  | .c _ => []
def Ar.slotso : Option Ar → List Nat
  | some x => x.slots
  | none => []
def arsSlots : List Ar → List Nat
  | [] => []
  | x :: r => x.slots ++ arsSlots r
def parts3Slots : List (Nat × Nat × Ar) → List Nat
  | [] => []
  | (_, _, x) :: r => x.slots ++ parts3Slots r
def parts2Slots : List (Nat × Ar) → List Nat
  | [] => []
  | (_, x) :: r => x.slots ++ parts2Slots r

def NOp.slots : NOp → List Nat
  | .lookup _ _ _ _ x k => x.slots ++ k.slots
  | .mupd _ _ x k v => x.slots ++ (k.slots ++ v.slots)
  | .mdel _ _ x k => x.slots ++ k.slots
  | .ment _ _ _ x k => x.slots ++ k.slots
  | .ests x s v => x.slots ++ (s.slots ++ v.slots)
  | .mclr x => x.slots
  | .nxt x => x.slots
  | .ient x => x.slots
  | .xtr _ x y => x.slots ++ y.slots
  | .xcm x y => x.slots ++ y.slots
  | .bad => []
  | .sclr _ _ x => x.slots
  | .eqn _ x => x.slots
  | .eqst _ _ x y => x.slots ++ y.slots
def AOp.slots : AOp → List Nat
  | .nw op => op.slots
  | .cst _ => []
  | .mv x => x.slots
  | .pick c a b => c.slots ++ (a.slots ++ b.slots)
  | .un _ x => x.slots
  | .bin _ x y => x.slots ++ y.slots
  | .eqb _ x y => x.slots ++ y.slots
  | .eqp _ x => x.slots
  | .eqm _ x => x.slots
  | .conv _ x => x.slots
  | .convs x => x.slots
  | .nilck x => x.slots
  | .fa _ x => x.slots
  | .ld _ _ x => x.slots
  | .ia _ x i => x.slots ++ i.slots
  | .iarr _ _ x i => x.slots ++ i.slots
  | .ixs x i => x.slots ++ i.slots
  | .ixa _ _ _ x i => x.slots ++ i.slots
  | .len x => x.slots
  | .lens x => x.slots
  | .sls x lo hi => x.slots ++ (Ar.slotso lo ++ Ar.slotso hi)
  | .sll _ x lo hi => x.slots ++ (Ar.slotso lo ++ Ar.slotso hi)
  | .fld _ _ _ x => x.slots
  | .maxi x y => x.slots ++ y.slots
  | .mini x y => x.slots ++ y.slots
  | .build _ ps => parts3Slots ps
  | .mkfn _ caps => arsSlots caps
  | .lenm x => x.slots
  | .st _ x v => x.slots ++ v.slots
  | .box _ x => x.slots
  | .alloc _ => []
  | .bsl _ _ _ ps => parts2Slots ps
  | .app _ _ x y => x.slots ++ y.slots
  | .ext x _ => x.slots
  | .mkmap _ _ => []
  | .mrange x => x.slots
  | .mksl _ _ _ n => n.slots
  | .call _ args => arsSlots args
  | .callv x args => x.slots ++ arsSlots args

def AO.reads (ao : AO) : List Nat := (match ao.g with | some (s, _) => [s] | none => []) ++ ao.op.slots

section
variable {P : Program} {st st' : St}

theorem v_congr {x : Ar} (h : ∀ t ∈ x.slots, look st.env t = look st'.env t) : x.v st = x.v st' := by
  cases x with
  | s t => exact h t (by simp [Ar.slots])
  | c v => rfl

theorem u_congr {x : Ar} (h : ∀ t ∈ x.slots, look st.env t = look st'.env t) : x.u st = x.u st' := by unfold Ar.u; rw [v_congr h]

theorem rd_congr {gc : Bool} {x : Ar} (h : ∀ t ∈ x.slots, look st.env t = look st'.env t) : rd gc st x = rd gc st' x := by
  unfold rd; rw [v_congr h]

theorem bnd_congr {gc : Bool} {x : Option Ar} {d : Int} (h : ∀ t ∈ Ar.slotso x, look st.env t = look st'.env t) : bnd x gc st d = bnd x gc st' d := by
  cases x with
  | none => rfl
  | some x => simp only [bnd]; rw [rd_congr (st := st) (st' := st') h]

theorem fillV_congr {gc : Bool} : ∀ {ps : List (Nat × Nat × Ar)} {cs : List V}, (∀ t ∈ parts3Slots ps, look st.env t = look st'.env t) → fillV st gc cs ps = fillV st' gc cs ps
  | [], _, _ => rfl
  | (off, n, x) :: r, cs, h => by
    simp only [fillV]
    rw [rd_congr (st := st) (st' := st') (fun t ht => h t (by simp [parts3Slots, ht]))]
    have ih := fun cs => fillV_congr (gc := gc) (ps := r) (cs := cs) (fun t ht => h t (by simp [parts3Slots, ht]))
    simp only [ih]

theorem capsOf_congr : ∀ {xs : List Ar}, (∀ t ∈ arsSlots xs, look st.env t = look st'.env t) → capsOf st xs = capsOf st' xs
  | [], _ => rfl
  | x :: r, h => by
    simp only [capsOf]
    rw [v_congr (st := st) (st' := st') (fun t ht => h t (by simp [arsSlots, ht])), capsOf_congr (xs := r) (fun t ht => h t (by simp [arsSlots, ht]))]

theorem argsV_congr : ∀ {xs : List Ar}, (∀ t ∈ arsSlots xs, look st.env t = look st'.env t) → argsV st xs = argsV st' xs
  | [], _ => rfl
  | x :: r, h => by
    simp only [argsV]
    rw [u_congr (st := st) (st' := st') (fun t ht => h t (by simp [arsSlots, ht])), argsV_congr (xs := r) (fun t ht => h t (by simp [arsSlots, ht]))]

theorem pureParts_congr {sz : Nat} : ∀ {ps : List (Nat × Ar)} {xs : List (List T)}, (∀ t ∈ parts2Slots ps, look st.env t = look st'.env t) → pureParts st sz xs ps = pureParts st' sz xs ps
  | [], _, _ => rfl
  | (i, x) :: r, xs, h => by
    simp only [pureParts]
    rw [u_congr (st := st) (st' := st') (fun t ht => h t (by simp [parts2Slots, ht]))]
    have ih := fun xs => pureParts_congr (sz := sz) (ps := r) (xs := xs) (fun t ht => h t (by simp [parts2Slots, ht]))
    simp only [ih]

theorem looksE_congr {op : AOp} (h : ∀ t ∈ op.slots, look st.env t = look st'.env t) : looksE st op = looksE st' op := by
  cases op <;> simp only [looksE]
  case ld ag n x => rw [v_congr (st := st) (st' := st') (fun t ht => h t (by simp [AOp.slots, ht]))]
  case eqp a x => rw [v_congr (st := st) (st' := st') (fun t ht => h t (by simp [AOp.slots, ht]))]
  case nilck x => rw [v_congr (st := st) (st' := st') (fun t ht => h t (by simp [AOp.slots, ht]))]
  case fa a x => rw [v_congr (st := st) (st' := st') (fun t ht => h t (by simp [AOp.slots, ht]))]
  case ia a x i => rw [v_congr (st := st) (st' := st') (fun t ht => h t (by simp [AOp.slots, ht]))]
  case len x => rw [v_congr (st := st) (st' := st') (fun t ht => h t (by simp [AOp.slots, ht]))]
  case sll a x lo hi => rw [v_congr (st := st) (st' := st') (fun t ht => h t (by simp [AOp.slots, ht]))]
  case nw op =>
    cases op <;> simp only
    case lookup a b c d x k => rw [v_congr (st := st) (st' := st') (fun t ht => h t (by simp [AOp.slots, NOp.slots, ht]))]
    case ient x => rw [v_congr (st := st) (st' := st') (fun t ht => h t (by simp [AOp.slots, NOp.slots, ht]))]

def V.ng : V → Bool
  | .gpt _ _ _ => false
  | .gsl _ _ _ _ _ => false
  | _ => true
theorem rd_ng {gc : Bool} {x : Ar} (h : looksG (x.v st) = false) : (rd gc st x).1.ng = true := by
  unfold rd
  generalize x.v st = y at h ⊢
  cases y with
  | gpt _ _ _ => simp [looksG] at h
  | gsl _ _ _ _ _ => simp [looksG] at h
  | gd c y =>
    cases y with
    | gpt _ _ _ => simp [looksG] at h
    | gsl _ _ _ _ _ => simp [looksG] at h
    | _ => rfl
  | _ => rfl

theorem evalE_congr {gc : Bool} {op : AOp} (h : ∀ t ∈ op.slots, look st.env t = look st'.env t) (hs : looksE st op = false ∨ st.s.sto = st'.s.sto) : evalE gc st op = evalE gc st' op := by
  have r1 : ∀ (g : Bool) (x : Ar), (∀ t ∈ x.slots, t ∈ op.slots) → rd g st x = rd g st' x := fun g x hx => rd_congr fun t ht => h t (hx t ht)
  cases op with
  | cst v => rfl
  | mv x => simp only [evalE]; rw [r1 gc x (fun t ht => ht)]
  | pick c a b => simp only [evalE]; rw [r1 gc c (fun t ht => by simp [AOp.slots, ht])]; simp only [r1 _ a (fun t ht => by simp [AOp.slots, ht]), r1 _ b (fun t ht => by simp [AOp.slots, ht])]
  | un op x => cases op <;> simp only [evalE] <;> rw [r1 gc x (fun t ht => ht)]
  | bin op x y => simp only [evalE]; rw [r1 gc x (fun t ht => by simp [AOp.slots, ht]), r1 gc y (fun t ht => by simp [AOp.slots, ht])]
  | eqb op x y => simp only [evalE]; rw [r1 gc x (fun t ht => by simp [AOp.slots, ht]), r1 gc y (fun t ht => by simp [AOp.slots, ht])]
  | eqp op x => 
    have hx := r1 gc x (fun t ht => by simp [AOp.slots, ht])
    rcases hs with hs | hs
    · have h0 := rd_ng (gc := gc) (by simpa [looksE] using hs)
      simp only [evalE, ← hx]
      generalize rd gc st x = z at h0 ⊢
      obtain ⟨v, p⟩ := z
      cases v <;> first | rfl | (simp [V.ng] at h0; done) | (rename_i y; cases y <;> rfl)
    · simp only [evalE, ← hx, hs]
  | eqm op x => simp only [evalE]; rw [r1 gc x (fun t ht => ht)]
  | conv k x => simp only [evalE]; rw [r1 gc x (fun t ht => ht)]
  | convs x => simp only [evalE]; rw [r1 gc x (fun t ht => ht)]
  | nilck x => 
    have hx := r1 gc x (fun t ht => by simp [AOp.slots, ht])
    rcases hs with hs | hs
    · have h0 := rd_ng (gc := gc) (by simpa [looksE] using hs)
      simp only [evalE, ← hx]
      generalize rd gc st x = z at h0 ⊢
      obtain ⟨v, p⟩ := z
      cases v <;> first | rfl | (simp [V.ng] at h0; done) | (rename_i y; cases y <;> rfl)
    · simp only [evalE, ← hx, hs]
  | fa n x => 
    have hx := r1 gc x (fun t ht => by simp [AOp.slots, ht])
    rcases hs with hs | hs
    · have h0 := rd_ng (gc := gc) (by simpa [looksE] using hs)
      simp only [evalE, ← hx]
      generalize rd gc st x = z at h0 ⊢
      obtain ⟨v, p⟩ := z
      cases v <;> first | rfl | (simp [V.ng] at h0; done) | (rename_i y; cases y <;> rfl)
    · simp only [evalE, ← hx, hs]
  | ld ag n x =>
    have hv := v_congr (st := st) (st' := st') (x := x) (fun t ht => h t ht)
    rcases hs with hs | hs
    · simp only [evalE, rd, ← hv]
      simp only [looksE] at hs
      generalize x.v st = y at hs ⊢
      cases y with
      | t z => cases z <;> rfl
      | ptr _ _ => simp [looksV] at hs
      | fpt _ _ _ => simp [looksV] at hs
      | gpt _ _ _ => simp [looksV] at hs
      | mp _ => rfl
      | gd c y =>
        cases y with
        | t z => cases z <;> rfl
        | ptr _ _ => simp [looksV] at hs
        | fpt _ _ _ => simp [looksV] at hs
        | gpt _ _ _ => simp [looksV] at hs
        | _ => rfl
      | _ => rfl
    · simp only [evalE]; rw [r1 gc x (fun t ht => ht), hs]
  | ia sz x i =>
    have hx := r1 gc x (fun t ht => by simp [AOp.slots, ht])
    have hi := r1 gc i (fun t ht => by simp [AOp.slots, ht])
    rcases hs with hs | hs
    · have h0 := rd_ng (gc := gc) (by simpa [looksE] using hs)
      simp only [evalE, ← hx, ← hi]
      generalize rd gc st x = z at h0 ⊢
      generalize rd gc st i = z2
      obtain ⟨v, p⟩ := z
      obtain ⟨v2, p2⟩ := z2
      have e2 : (∃ k n, v2 = .t (.int k n)) ∨ ∀ k n, v2 ≠ .t (.int k n) := by
        cases v2 with
        | t y => cases y <;> first | exact .inl ⟨_, _, rfl⟩ | exact .inr (by simp)
        | _ => exact .inr (by simp)
      rcases e2 with ⟨k, n, rfl⟩ | e2
      · cases v <;> first | rfl | (exfalso; cases h0; done)
      · cases v2 with
        | t y => cases y <;> first | rfl | exact absurd rfl (e2 _ _)
        | _ => rfl
    · simp only [evalE, ← hx, ← hi, hs]
  | iarr a b x i => simp only [evalE]; rw [r1 gc x (fun t ht => by simp [AOp.slots, ht]), r1 gc i (fun t ht => by simp [AOp.slots, ht])]
  | ixs x i => simp only [evalE]; rw [r1 gc x (fun t ht => by simp [AOp.slots, ht]), r1 gc i (fun t ht => by simp [AOp.slots, ht])]
  | ixa a b c x i => simp only [evalE]; rw [r1 gc x (fun t ht => by simp [AOp.slots, ht]), r1 gc i (fun t ht => by simp [AOp.slots, ht])]
  | len x => 
    have hx := r1 gc x (fun t ht => by simp [AOp.slots, ht])
    rcases hs with hs | hs
    · have h0 := rd_ng (gc := gc) (by simpa [looksE] using hs)
      simp only [evalE, ← hx]
      generalize rd gc st x = z at h0 ⊢
      obtain ⟨v, p⟩ := z
      cases v <;> first | rfl | (simp [V.ng] at h0; done) | (rename_i y; cases y <;> rfl)
    · simp only [evalE, ← hx, hs]
  | lens x => simp only [evalE]; rw [r1 gc x (fun t ht => ht)]
  | sls x lo hi =>
    have b1 := fun d => bnd_congr (st := st) (st' := st') (gc := gc) (x := lo) (d := d) (fun t ht => h t (by simp [AOp.slots, ht]))
    have b2 := fun d => bnd_congr (st := st) (st' := st') (gc := gc) (x := hi) (d := d) (fun t ht => h t (by simp [AOp.slots, ht]))
    simp only [evalE, b1, b2]; rw [r1 gc x (fun t ht => by simp [AOp.slots, ht])]
  | sll a x lo hi =>
    have b1 := fun d => bnd_congr (st := st) (st' := st') (gc := gc) (x := lo) (d := d) (fun t ht => h t (by simp [AOp.slots, ht]))
    have b2 := fun d => bnd_congr (st := st) (st' := st') (gc := gc) (x := hi) (d := d) (fun t ht => h t (by simp [AOp.slots, ht]))
    have hx := r1 gc x (fun t ht => by simp [AOp.slots, ht])
    rcases hs with hs | hs
    · have h0 := rd_ng (gc := gc) (by simpa [looksE] using hs)
      simp only [evalE, b1, b2, ← hx]
      generalize rd gc st x = z at h0 ⊢
      obtain ⟨v, p⟩ := z
      cases v <;> first | rfl | (simp [V.ng] at h0; done)
    · simp only [evalE, b1, b2, ← hx, hs]
  | fld a b c x => simp only [evalE]; rw [r1 gc x (fun t ht => ht)]
  | maxi x y => simp only [evalE]; rw [r1 gc x (fun t ht => by simp [AOp.slots, ht]), r1 gc y (fun t ht => by simp [AOp.slots, ht])]
  | mini x y => simp only [evalE]; rw [r1 gc x (fun t ht => by simp [AOp.slots, ht]), r1 gc y (fun t ht => by simp [AOp.slots, ht])]
  | build zs ps => simp only [evalE]; rw [fillV_congr (st := st) (st' := st') h]
  | mkfn f caps => simp only [evalE]; rw [capsOf_congr (st := st) (st' := st') h]
  | ext x i => simp only [evalE]; rw [r1 gc x (fun t ht => ht)]
  | nw op =>
    cases op with
    | lookup ks kag zv ok x k =>
      have hk := rd_congr (st := st) (st' := st') (gc := gc) (x := k) (fun t ht => h t (by simp [AOp.slots, NOp.slots, ht]))
      rcases hs with hs | hs
      · have hv := v_congr (st := st) (st' := st') (x := x) (fun t ht => h t (by simp [AOp.slots, NOp.slots, ht]))
        simp only [evalE, evalN, hk]
        simp only [rd, ← hv]
        simp only [looksE] at hs
        generalize x.v st = y at hs ⊢
        cases y with
        | t z => cases z <;> rfl
        | mp _ => simp [looksV] at hs
        | gd c y =>
          cases y with
          | t z => cases z <;> rfl
          | mp _ => simp [looksV] at hs
          | _ => rfl
        | _ => rfl
      · have hx := rd_congr (st := st) (st' := st') (gc := gc) (x := x) (fun t ht => h t (by simp [AOp.slots, NOp.slots, ht]))
        simp only [evalE, evalN]; rw [hx, hk, hs]
    | ient x =>
      rcases hs with hs | hs
      · have hv := v_congr (st := st) (st' := st') (x := x) (fun t ht => h t (by simp [AOp.slots, NOp.slots, ht]))
        simp only [evalE, evalN]
        simp only [rd, ← hv]
        simp only [looksE] at hs
        generalize x.v st = y at hs ⊢
        cases y with
        | ptr _ _ => simp [looksV] at hs
        | gd c y =>
          cases y with
          | ptr _ _ => simp [looksV] at hs
          | _ => rfl
        | _ => rfl
      · have hx := rd_congr (st := st) (st' := st') (gc := gc) (x := x) (fun t ht => h t (by simp [AOp.slots, NOp.slots, ht]))
        simp only [evalE, evalN]; rw [hx, hs]
    | eqn neg x =>
      simp only [evalE, evalN]
      rw [rd_congr (st := st) (st' := st') (gc := gc) (x := x) (fun t ht => h t (by simp [AOp.slots, NOp.slots, ht]))]
    | eqst neg ks x y =>
      simp only [evalE, evalN]
      rw [rd_congr (st := st) (st' := st') (gc := gc) (x := x) (fun t ht => h t (by simp [AOp.slots, NOp.slots, ht])), rd_congr (st := st) (st' := st') (gc := gc) (x := y) (fun t ht => h t (by simp [AOp.slots, NOp.slots, ht]))]
    | xcm x y =>
      simp only [evalE, evalN]
      rw [rd_congr (st := st) (st' := st') (gc := gc) (x := x) (fun t ht => h t (by simp [AOp.slots, NOp.slots, ht])), rd_congr (st := st) (st' := st') (gc := gc) (x := y) (fun t ht => h t (by simp [AOp.slots, NOp.slots, ht]))]
    | xtr cnt x y =>
      simp only [evalE, evalN]
      rw [rd_congr (st := st) (st' := st') (gc := gc) (x := x) (fun t ht => h t (by simp [AOp.slots, NOp.slots, ht])), rd_congr (st := st) (st' := st') (gc := gc) (x := y) (fun t ht => h t (by simp [AOp.slots, NOp.slots, ht]))]
    | _ => rfl
  | lenm x => rfl
  | st n x v => rfl
  | box n x => rfl
  | alloc zs => rfl
  | bsl a b c d => rfl
  | app a b c d => rfl
  | mkmap a b => rfl
  | mrange x => rfl
  | mksl a b c d => rfl
  | call f a => rfl
  | callv x a => rfl

theorem FnEv_congr {f : FuncId} {vs : List V} {base : Nat} {sto sto' : List (Nat × AObj)} {out : Out} (hs : out.rd = false ∨ sto = sto') (h : FnEv P f vs base sto (· = out)) : FnEv P f vs base sto' (· = out) := by
  obtain ⟨o, h1, rfl⟩ := h
  refine ⟨o, ?_, rfl⟩
  rcases hs with hs | hs
  · simp only [hs, Bool.false_eq_true, if_false] at h1 ⊢; exact h1
  · rw [← hs]; exact h1

theorem evX_congr {base : Nat} {op : AOp} {out : Out} (h : ∀ t ∈ op.slots, look st.env t = look st'.env t) (hs : out.rd = false ∨ st.s.sto = st'.s.sto) (he : evX P base st (· = out) op) : evX P base st' (· = out) op := by
  have v1 : ∀ (x : Ar), (∀ t ∈ x.slots, t ∈ op.slots) → x.u st = x.u st' := fun x hx => u_congr fun t ht => h t (hx t ht)
  cases op with
  | st n x v =>
    simp only [evX] at he ⊢
    rw [← v1 x (fun t ht => by simp [AOp.slots, ht]), ← v1 v (fun t ht => by simp [AOp.slots, ht])]
    rcases hs with hs | hs
    · exfalso
      split at he
      · split at he
        · split at he
          · obtain ⟨_, rfl⟩ := he; simp at hs
          · exact he
        · exact he
      · exact he
    · rw [← hs]; exact he
  | box n x => simp only [evX] at he ⊢; rw [← v1 x (fun t ht => ht)]; exact he
  | alloc zs => exact he
  | bsl a b c d => simp only [evX] at he ⊢; rw [← pureParts_congr (st := st) (st' := st') h]; exact he
  | app a b x y =>
    simp only [evX] at he ⊢
    rw [← v1 x (fun t ht => by simp [AOp.slots, ht]), ← v1 y (fun t ht => by simp [AOp.slots, ht])]
    rcases hs with hs | hs
    · generalize (Ar.u st y).cell1 = cy at he ⊢
      generalize Ar.u st x = vx at he ⊢
      cases cy with
      | none => exact he
      | some z =>
        cases z with
        | lst ys =>
          cases vx with
          | nils => exact he
          | own k s xs =>
            exfalso
            simp only at he
            split at he
            · obtain ⟨_, _, _, _, _, rfl⟩ := he; simp at hs
            · exact he
          | _ => exact he
        | _ => exact he
    · rw [← hs]; exact he
  | mksl a b c n => simp only [evX] at he ⊢; rw [← v1 n (fun t ht => ht)]; exact he
  | call f args => simp only [evX] at he ⊢; rw [← argsV_congr (st := st) (st' := st') h]; exact FnEv_congr hs he
  | callv x args =>
    simp only [evX] at he ⊢
    rw [← v1 x (fun t ht => by simp [AOp.slots, ht]), ← argsV_congr (st := st) (st' := st') (fun t ht => h t (by simp [AOp.slots, ht]))]
    generalize Ar.u st x = vx at he ⊢
    cases vx with
    | t z =>
      cases z with
      | fn f => exact FnEv_congr hs he
      | _ => exact he
    | fn f caps => exact FnEv_congr hs he
    | _ => exact he
  | mkmap a b => exact he
  | mrange x =>
    simp only [evX] at he ⊢
    rw [← v1 x (fun t ht => ht)]
    rcases hs with hs | hs
    · exfalso
      split at he
      · split at he
        · subst he; simp at hs
        · exact he
      · exact he
    · rw [← hs]; exact he
  | lenm x =>
    simp only [evX] at he ⊢
    rw [← v1 x (fun t ht => ht)]
    rcases hs with hs | hs
    · exfalso
      split at he
      · subst he; simp at hs
      · split at he
        · subst he; simp at hs
        · exact he
      · exact he
    · rw [← hs]; exact he
  | nw op =>
    have u1 : ∀ (x : Ar), (∀ t ∈ x.slots, t ∈ op.slots) → x.u st = x.u st' := fun x hx => u_congr fun t ht => h t (by simp only [AOp.slots]; exact hx t ht)
    have hrd : out.rd = true := by
      simp only [evX] at he
      unfold evXN at he
      (repeat' split at he) <;> first | exact he.elim | (obtain ⟨_, rfl⟩ := he; rfl) | (subst he; rfl)
    have hs' : st.s.sto = st'.s.sto := by
      rcases hs with hs | hs
      · rw [hrd] at hs; cases hs
      · exact hs
    simp only [evX] at he ⊢
    cases op with
    | mupd ks kag x k v => simp only [evXN] at he ⊢; rw [← u1 x (fun t ht => by simp [NOp.slots, ht]), ← u1 k (fun t ht => by simp [NOp.slots, ht]), ← u1 v (fun t ht => by simp [NOp.slots, ht]), ← hs']; exact he
    | mdel ks kag x k => simp only [evXN] at he ⊢; rw [← u1 x (fun t ht => by simp [NOp.slots, ht]), ← u1 k (fun t ht => by simp [NOp.slots, ht]), ← hs']; exact he
    | mclr x => simp only [evXN] at he ⊢; rw [← u1 x (fun t ht => ht), ← hs']; exact he
    | ment ks kag zv x k => simp only [evXN] at he ⊢; rw [← u1 x (fun t ht => by simp [NOp.slots, ht]), ← u1 k (fun t ht => by simp [NOp.slots, ht]), ← hs']; exact he
    | ests x s v => simp only [evXN] at he ⊢; rw [← u1 x (fun t ht => by simp [NOp.slots, ht]), ← u1 s (fun t ht => by simp [NOp.slots, ht]), ← u1 v (fun t ht => by simp [NOp.slots, ht]), ← hs']; exact he
    | _ => exact he.elim
  | _ => exact he.elim

theorem objParts_congr {sz : Nat} : ∀ {ps : List (Nat × Ar)} {cs : List V}, (∀ t ∈ parts2Slots ps, look st.env t = look st'.env t) → objParts st sz cs ps = objParts st' sz cs ps
  | [], _, _ => rfl
  | (i, x) :: r, cs, h => by
    simp only [objParts]
    rw [u_congr (st := st) (st' := st') (fun t ht => h t (by simp [parts2Slots, ht]))]
    have ih := fun cs => objParts_congr (sz := sz) (ps := r) (cs := cs) (fun t ht => h t (by simp [parts2Slots, ht]))
    simp only [ih]

theorem addV_congr {sz : Nat} {y : V} (hs : st.s.sto = st'.s.sto) : addV st sz y = addV st' sz y := by unfold addV; rw [hs]

theorem YOut_congr {base : Nat} {op : AOp} {out : Out} (h : ∀ t ∈ op.slots, look st.env t = look st'.env t) (hs : out.rd = false ∨ st.s.sto = st'.s.sto) (he : YOut st base op out) : YOut st' base op out := by
  have v1 : ∀ (x : Ar), (∀ t ∈ x.slots, t ∈ op.slots) → x.u st = x.u st' := fun x hx => u_congr fun t ht => h t (hx t ht)
  cases he with
  | @stG n x v _ _ _ _ _ _ hx hk hw hv hn ho hc =>
    have e := hs.resolve_left (by simp)
    exact .stG (v1 x (fun t ht => by simp [AOp.slots, ht]) ▸ hx) (e ▸ hk) hw (v1 v (fun t ht => by simp [AOp.slots, ht]) ▸ hv) hn ho hc
  | @stF n x v _ _ _ _ _ _ hx hk hi hv hn ho hc =>
    have e := hs.resolve_left (by simp)
    exact .stF (v1 x (fun t ht => by simp [AOp.slots, ht]) ▸ hx) (e ▸ hk) hi (v1 v (fun t ht => by simp [AOp.slots, ht]) ▸ hv) hn ho hc
  | @boxF n x _ _ _ hk hv hn hc =>
    have e := hs.resolve_left (by simp)
    exact .boxF (e ▸ hk) (v1 x (fun t ht => by simp [AOp.slots, ht]) ▸ hv) hn hc
  | allocF hk =>
    have e := hs.resolve_left (by simp)
    exact .allocF (e ▸ hk)
  | @appF _ _ x y _ _ _ _ _ hx hy hk hi hl h1 h2 =>
    have e := hs.resolve_left (by simp)
    exact .appF (v1 x (fun t ht => by simp [AOp.slots, ht]) ▸ hx) (v1 y (fun t ht => by simp [AOp.slots, ht]) ▸ hy) (e ▸ hk) hi hl h1 h2
  | @appN _ _ x y _ _ hx hy hc h1 h2 =>
    have e := hs.resolve_left (by simp)
    exact .appN (v1 x (fun t ht => by simp [AOp.slots, ht]) ▸ hx) (by rw [← addV_congr e, ← v1 y (fun t ht => by simp [AOp.slots, ht])]; exact hy) hc h1 h2
  | @appG _ _ x y _ _ _ _ _ _ _ hx hk hw hl hy hc h1 h2 =>
    have e := hs.resolve_left (by simp)
    exact .appG (v1 x (fun t ht => by simp [AOp.slots, ht]) ▸ hx) (e ▸ hk) hw hl (by rw [← addV_congr e, ← v1 y (fun t ht => by simp [AOp.slots, ht])]; exact hy) hc h1 h2
  | bslO hp =>
    exact .bslO (by rw [← objParts_congr (st := st) (st' := st') (fun t ht => h t (by simpa [AOp.slots] using ht))]; exact hp)
  | bslF hp hk h0 =>
    have e := hs.resolve_left (by simp)
    exact .bslF (by rw [← pureParts_congr (st := st) (st' := st') (fun t ht => h t (by simpa [AOp.slots] using ht))]; exact hp) (e ▸ hk) h0
  | @clrG _ _ x _ _ _ _ _ _ hx hk hw ho =>
    have e := hs.resolve_left (by simp)
    exact .clrG (v1 x (fun t ht => by simp [AOp.slots, NOp.slots, ht]) ▸ hx) (e ▸ hk) hw ho

theorem evXY_congr {base : Nat} {op : AOp} {out : Out} (h : ∀ t ∈ op.slots, look st.env t = look st'.env t) (hs : out.rd = false ∨ st.s.sto = st'.s.sto) (he : evX P base st (· = out) op ∨ evY base st (· = out) op) : evX P base st' (· = out) op ∨ evY base st' (· = out) op := by
  rcases he with he | ⟨o', he, rfl⟩
  · exact .inl (evX_congr h hs he)
  · exact .inr ⟨_, YOut_congr h hs he, rfl⟩
theorem evXY_looks {base : Nat} {op : AOp} {out : Out} (he : evX P base st (· = out) op ∨ evY base st (· = out) op) : looksE st op = false := by
  rcases he with he | ⟨o', he, rfl⟩
  · cases op with
    | nw op => cases op <;> simp_all [looksE, evX, evXN]
    | _ => simp_all [looksE, evX]
  · cases he <;> rfl

theorem evO_congr {base : Nat} {ao : AO} {out : Out} (h : ∀ t ∈ ao.reads, look st.env t = look st'.env t) (hs : out.rd = false ∨ st.s.sto = st'.s.sto) (he : evO P base st ao (· = out)) : evO P base st' ao (· = out) := by
  have hop : ∀ t ∈ ao.op.slots, look st.env t = look st'.env t := fun t ht => h t (by simp [AO.reads, ht])
  unfold evO at he ⊢
  cases hg : ao.g with
  | none =>
    simp only [hg] at he ⊢
    unfold evU at he ⊢
    cases hev : evalE true st ao.op with
    | some r =>
      obtain ⟨v, ps⟩ := r
      simp only [hev] at he
      obtain ⟨h1, rfl⟩ := he
      rw [← evalE_congr hop (by simpa using hs), hev]
      simp only
      exact ⟨h1, by rw [looksE_congr (st := st) (st' := st') hop]⟩
    | none =>
      simp only [hev] at he
      have : evalE true st' ao.op = none := by
        rw [← evalE_congr hop (.inl (evXY_looks he))]; exact hev
      rw [this]
      exact evXY_congr hop hs he
  | some g =>
    obtain ⟨s, want⟩ := g
    simp only [hg] at he ⊢
    rw [← h s (by simp [AO.reads, hg])]
    cases hc : gcond want (look st.env s) with
    | none => simp only [hc] at he
    | some gc =>
      simp only [hc] at he ⊢
      cases hev : evalE gc st ao.op with
      | some r =>
        obtain ⟨v, ps⟩ := r
        simp only [hev] at he
        obtain ⟨h1, rfl⟩ := he
        rw [← evalE_congr hop (by simpa using hs), hev]
        simp only
        exact ⟨h1, by rw [looksE_congr (st := st) (st' := st') hop]⟩
      | none =>
        simp only [hev] at he
        rcases he with he | he
        · have hcg : callG P gc base st' (· = out) ao.op := by
            cases hao : ao.op <;> rw [hao] at he <;> try (exact he.elim)
            rename_i f args
            simp only [callG] at he ⊢
            rw [hao] at hop
            rw [← argsV_congr (st := st) (st' := st') hop]
            obtain ⟨o, h1, h2, rfl⟩ := he
            refine ⟨o, fun hg => ?_, h2, rfl⟩
            have := h1 hg
            rcases hs with hs | hs
            · simp only at hs; simp only [hs, Bool.false_eq_true, if_false] at this ⊢; exact this
            · rw [← hs]; exact this
          have hnone : evalE gc st' ao.op = none := by
            cases hao : ao.op <;> rw [hao] at hcg <;> first | exact hcg.elim | rfl
          rw [hnone]
          exact Or.inl hcg
        cases gc with
        | false =>
          have hout := he.2 rfl
          subst hout
          rw [← evalE_congr hop (by simpa using hs), hev]
          exact Or.inr ⟨by simp, fun _ => by rw [looksE_congr (st := st) (st' := st') hop]⟩
        | true =>
          have hx := he.1 rfl
          have : evalE true st' ao.op = none := by
            rw [← evalE_congr hop (.inl (evXY_looks hx))]; exact hev
          simp only [this]
          exact Or.inr ⟨fun _ => evXY_congr hop hs hx, by simp⟩

end
end Go.GB


/-
  GbS: regions whose order is drawn: independent operations may go in any order.
-/
namespace Go.GB
set_option linter.unusedSimpArgs false

/-- the state behind the operations of a set -/
def stD (D : Nat → Bool) : Nat → St → List AO → List Out → St
  | i, st, ao :: r, out :: os => stD D (i + 1) (if D i then st.app ao.dst out else st) r os
  | _, st, _, _ => st

def sumN : List Out → Nat
  | [] => 0
  | o :: r => o.n + sumN r

/-- masks of what must go before -/
def befores : List (List Nat) → List Nat → List Nat
  | [], acc => acc
  | l :: r, acc => befores r (acc ++ [l.foldl (fun s j => s ||| (2 ^ j ||| acc.getD j 0)) 0])

def AO.hits (a b : AO) : Bool :=
  match a.dst with
  | some d => b.reads.contains d
  | none => false
def AO.same (a b : AO) : Bool :=
  match a.dst with
  | some d => b.dst == some d
  | none => false
def AO.clash (a b : AO) : Bool := (a.hits b || b.hits a) || (a.same b || b.same a)

/-- an operation that looks at one object that is there -/
def AO.near (a : AO) : Bool :=
  match a.g, a.op with
  | none, .ld _ _ (.s _) => true
  | none, .nw (.lookup _ _ _ _ (.s _) _) => true
  | none, .ia _ (.s _) _ => true
  | none, .fa _ (.s _) => true
  | _, _ => false
/-- an operand that names nothing and that nothing sets later -/
def Ar.still (env : List (Nat × V)) (rest : List AO) : Ar → Bool
  | .c _ => true
  | .s t => (match look env t with | .t _ => true | _ => false) && rest.all (fun o => !(o.dst == some t))

/-- the object that a load looks at, where nothing sets the slot later -/
def nearAt (env : List (Nat × V)) (rest : List AO) (a : AO) : Option Nat :=
  match a.g, a.op with
  | none, .ld _ _ (.s t) =>
    match ((look env t).un true).1, rest.all (fun o => !(o.dst == some t)) with
    | .ptr k _, true => some k
    | .gpt k _ _, true => some k
    | .fpt k _ _, true => some k
    | _, _ => none
  | none, .fa _ (.s t) =>
    match ((look env t).un true).1, rest.all (fun o => !(o.dst == some t)) with
    | .gpt k _ _, true => some k
    | _, _ => none
  | none, .ia _ (.s t) i =>
    match ((look env t).un true).1, rest.all (fun o => !(o.dst == some t)), i.still env rest with
    | .gsl k _ _ _ _, true, true => some k
    | _, _, _ => none
  | _, _ => none
/-- the object that a store changes, where nothing sets the slot later -/
def storeAt (env : List (Nat × V)) (rest : List AO) (a : AO) : Option Nat :=
  match a.g, a.op with
  | none, .st _ (.s t) _ =>
    match (look env t).ug, rest.all (fun o => !(o.dst == some t)) with
    | .ptr k _, true => some k
    | .gpt k _ _, true => some k
    | .fpt k _ _, true => some k
    | _, _ => none
  | none, .app _ _ (.s t) _ =>
    match (look env t).ug, rest.all (fun o => !(o.dst == some t)) with
    | .own k _ _, true => some k
    | .fow k _ _ _, true => some k
    | .gsl k _ _ _ _, true => some k
    | _, _ => none
  | none, .bsl _ _ _ _ =>
    match a.dst with
    | some d =>
      match look env d, rest.tail.all (fun o => !(o.dst == some d)) with
      | .fow k _ _ _, true => some k
      | _, _ => none
    | none => none
  | none, .box _ _ =>
    match a.dst with
    | some d =>
      match look env d, rest.tail.all (fun o => !(o.dst == some d)) with
      | .fpt k _ _, true => some k
      | _, _ => none
    | none => none
  | _, _ => none
/-- a load and a store that concern two objects -/
def offs (aos : List AO) (env : List (Nat × V)) (a b : Nat) : Bool :=
  match nearAt env (aos.drop a) (aos.getD a ⟨none, none, .cst .top⟩), storeAt env (aos.drop b) (aos.getD b ⟨none, none, .cst .top⟩) with
  | some k, some q => !(k == q)
  | _, _ => false

def pairOk (bm : List Nat) (aos : List AO) (fl : List (Bool × Bool)) (env : List (Nat × V)) (j i : Nat) : Bool :=
  (bm.getD i 0).testBit j ||
    (!((aos.getD j ⟨none, none, .cst .top⟩).clash (aos.getD i ⟨none, none, .cst .top⟩)) && !((fl.getD j (false, false)).1 && (fl.getD i (false, false)).2 && !((aos.getD j ⟨none, none, .cst .top⟩).near && !(fl.getD i (false, false)).1) && !(offs aos env j i)) &&
      !((fl.getD i (false, false)).1 && (fl.getD j (false, false)).2 && !((aos.getD i ⟨none, none, .cst .top⟩).near && !(fl.getD j (false, false)).1) && !(offs aos env i j)))

def indep (aos : List AO) (after : List (List Nat)) (fl : List (Bool × Bool)) (env : List (Nat × V)) : Bool :=
  (after.zipIdx.all fun p => p.1.all fun j => decide (j < p.2)) &&
  (List.range aos.length).all fun i => (List.range i).all fun j => pairOk (befores after []) aos fl env j i

theorem offs_inv {aos : List AO} {env : List (Nat × V)} {a b : Nat} (h : offs aos env a b = true) : ∃ k q, nearAt env (aos.drop a) (aos.getD a ⟨none, none, .cst .top⟩) = some k ∧ storeAt env (aos.drop b) (aos.getD b ⟨none, none, .cst .top⟩) = some q ∧ k ≠ q := by
  unfold offs at h
  split at h
  · rename_i k q h1 h2; exact ⟨k, q, h1, h2, by simpa using h⟩
  · cases h

theorem evY_ld {base : Nat} {st : St} {K : Out → Prop} {ag : Bool} {n : Nat} {x : Ar} : evY base st K (.ld ag n x) ↔ False := ⟨(by rintro ⟨_, h, _⟩; cases h), False.elim⟩
theorem evY_lookup {base : Nat} {st : St} {K : Out → Prop} {ks : List KSh} {kag : Bool} {zv : V} {ok : Bool} {x k : Ar} : evY base st K (.nw (.lookup ks kag zv ok x k)) ↔ False := ⟨(by rintro ⟨_, h, _⟩; cases h), False.elim⟩
theorem evY_ia {base : Nat} {st : St} {K : Out → Prop} {sz : Nat} {x i : Ar} : evY base st K (.ia sz x i) ↔ False := ⟨(by rintro ⟨_, h, _⟩; cases h), False.elim⟩
theorem evY_fa {base : Nat} {st : St} {K : Out → Prop} {off : Nat} {x : Ar} : evY base st K (.fa off x) ↔ False := ⟨(by rintro ⟨_, h, _⟩; cases h), False.elim⟩
theorem nearAt_ok {env : List (Nat × V)} {rest : List AO} {a : AO} {k : Nat} (h : nearAt env rest a = some k) : a.near = true ∧ ∀ s ∈ a.reads, (∀ o ∈ rest, o.dst ≠ some s) ∧ ∀ q ps, ((∃ o, (look env s).un true = (.ptr q o, ps)) ∨ (look env s).un true = (.mp q, ps) ∨ (∃ i o, (look env s).un true = (.fpt q i o, ps)) ∨ (∃ ver o, 0 < ver ∧ (look env s).un true = (.gpt q ver o, ps)) ∨ ∃ ver o l z, 0 < ver ∧ (look env s).un true = (.gsl q ver o l z, ps)) → q = k := by
  have hall : ∀ t, rest.all (fun o => !(o.dst == some t)) = true → ∀ o ∈ rest, o.dst ≠ some t := fun t h2 o ho => by
    have := List.all_eq_true.1 h2 o ho
    simpa using this
  obtain ⟨dst, g, op⟩ := a
  unfold nearAt at h
  split at h
  · rename_i ag n t hg hop
    simp only at hg hop; subst hg; subst hop
    refine ⟨rfl, fun s hs => ?_⟩
    have hs' : s = t := by simpa [AO.reads, AOp.slots, Ar.slots] using hs
    subst hs'
    split at h
    · rename_i q o h1 h2
      simp only [Option.some.injEq] at h; subst h
      refine ⟨hall _ h2, fun q' ps hq => ?_⟩
      rcases hq with ⟨o', hq⟩ | hq | ⟨_, _, hq⟩ | ⟨_, _, _, hq⟩ | ⟨_, _, _, _, _, hq⟩ <;> rw [hq] at h1 <;> simp at h1
      exact h1.1
    · rename_i q r o h1 h2
      simp only [Option.some.injEq] at h; subst h
      refine ⟨hall _ h2, fun q' ps hq => ?_⟩
      rcases hq with ⟨o', hq⟩ | hq | ⟨_, _, hq⟩ | ⟨_, _, _, hq⟩ | ⟨_, _, _, _, _, hq⟩ <;> rw [hq] at h1 <;> simp at h1
      exact h1.1
    · rename_i q r o h1 h2
      simp only [Option.some.injEq] at h; subst h
      refine ⟨hall _ h2, fun q' ps hq => ?_⟩
      rcases hq with ⟨o', hq⟩ | hq | ⟨_, _, hq⟩ | ⟨_, _, _, hq⟩ | ⟨_, _, _, _, _, hq⟩ <;> rw [hq] at h1 <;> simp at h1
      exact h1.1
    · cases h
  · rename_i off t hg hop
    simp only at hg hop; subst hg; subst hop
    refine ⟨rfl, fun s hs => ?_⟩
    have hs' : s = t := by simpa [AO.reads, AOp.slots, Ar.slots] using hs
    subst hs'
    split at h
    · rename_i q r o h1 h2
      simp only [Option.some.injEq] at h; subst h
      refine ⟨hall _ h2, fun q' ps hq => ?_⟩
      rcases hq with ⟨o', hq⟩ | hq | ⟨_, _, hq⟩ | ⟨_, _, _, hq⟩ | ⟨_, _, _, _, _, hq⟩ <;> rw [hq] at h1 <;> simp at h1
      exact h1.1
    · cases h
  · rename_i sz t i hg hop
    simp only at hg hop; subst hg; subst hop
    refine ⟨rfl, fun s hs => ?_⟩
    split at h
    · rename_i q r o l z h1 h2 h3
      simp only [Option.some.injEq] at h; subst h
      have hs' : s = t ∨ s ∈ i.slots := by simpa [AO.reads, AOp.slots, Ar.slots] using hs
      rcases hs' with rfl | hs'
      · refine ⟨hall _ h2, fun q' ps hq => ?_⟩
        rcases hq with ⟨o', hq⟩ | hq | ⟨_, _, hq⟩ | ⟨_, _, _, hq⟩ | ⟨_, _, _, _, _, hq⟩ <;> rw [hq] at h1 <;> simp at h1
        exact h1.1
      · cases i with
        | c v => simp [Ar.slots] at hs'
        | s u =>
          have hu : s = u := by simpa [Ar.slots] using hs'
          subst hu
          simp only [Ar.still, Bool.and_eq_true] at h3
          refine ⟨hall _ h3.2, fun q' ps hq => ?_⟩
          have h4 := h3.1
          split at h4
          · rename_i x hx
            rw [hx] at hq
            simp [V.un] at hq
          · cases h4
    · cases h
  · cases h

theorem evY_stP {base : Nat} {st : St} {out : Out} {n k : Nat} {x v : Ar} (hx : (∃ o, x.u st = .ptr k o) ∨ (∃ r o, x.u st = .gpt k r o) ∨ ∃ i o, x.u st = .fpt k i o) (h : YOut st base (.st n x v) out) : ∀ q y, (q, y) ∈ out.ob → q = k := by
  cases h with
  | stG h =>
    rcases hx with ⟨o, hx⟩ | ⟨r, o, hx⟩ | ⟨i, o, hx⟩ <;> rw [hx] at h <;> simp at h
    intro q y hq; simp at hq; rw [hq.1, h.1]
  | stF h =>
    rcases hx with ⟨o, hx⟩ | ⟨r, o, hx⟩ | ⟨i, o, hx⟩ <;> rw [hx] at h <;> simp at h
    intro q y hq; simp at hq; rw [hq.1, h.1]
theorem evY_appP {base : Nat} {st : St} {out : Out} {sz b k : Nat} {x v : Ar} (hx : (∃ s xs, x.u st = .own k s xs) ∨ (∃ i s xs, x.u st = .fow k i s xs) ∨ ∃ r o l s, x.u st = .gsl k r o l s) (h : YOut st base (.app sz b x v) out) : ∀ q y, (q, y) ∈ out.ob → q = k := by
  cases h with
  | appF h =>
    rcases hx with ⟨s, xs, hx⟩ | ⟨i, s, xs, hx⟩ | ⟨r, o, l, s, hx⟩ <;> rw [hx] at h <;> simp at h
    intro q y hq; simp at hq; rw [hq.1, h.1]
  | appN h => rcases hx with ⟨s, xs, hx⟩ | ⟨i, s, xs, hx⟩ | ⟨r, o, l, s, hx⟩ <;> rw [hx] at h <;> simp at h
  | appG h =>
    rcases hx with ⟨s, xs, hx⟩ | ⟨i, s, xs, hx⟩ | ⟨r, o, l, s, hx⟩ <;> rw [hx] at h <;> simp at h
    intro q y hq; simp at hq; rw [hq.1, h.1]

theorem storeAt_ok {P : Program} {env : List (Nat × V)} {rest : List AO} {a : AO} {k : Nat} (h : storeAt env rest a = some k) : (∃ t, (∀ o ∈ rest, o.dst ≠ some t) ∧
    ∀ (base : Nat) (st : St) (out : Out), look st.env t = look env t → evO P base st a (· = out) → ∀ q x, (q, x) ∈ out.ob → q = k) ∨
    ∃ d, a.dst = some d ∧ (∀ o ∈ rest.tail, o.dst ≠ some d) ∧ ∀ (base : Nat) (st : St) (out : Out), look env d = out.v → evO P base st a (· = out) → ∀ q x, (q, x) ∈ out.ob → q = k := by
  have hall : ∀ t, rest.all (fun o => !(o.dst == some t)) = true → ∀ o ∈ rest, o.dst ≠ some t := fun t h2 o ho => by
    have := List.all_eq_true.1 h2 o ho
    simpa using this
  have hall2 : ∀ t, rest.tail.all (fun o => !(o.dst == some t)) = true → ∀ o ∈ rest.tail, o.dst ≠ some t := fun t h2 o ho => by
    have := List.all_eq_true.1 h2 o ho
    simpa using this
  obtain ⟨dst, g, op⟩ := a
  unfold storeAt at h
  split at h
  · rename_i n t w hg hop
    simp only at hg hop; subst hg; subst hop
    have key : ∀ (base : Nat) (st : St) (out : Out), ((∃ o, (Ar.s t).u st = .ptr k o) ∨ (∃ r o, (Ar.s t).u st = .gpt k r o) ∨ ∃ i o, (Ar.s t).u st = .fpt k i o) → evO P base st ⟨dst, none, .st n (.s t) w⟩ (· = out) → ∀ q x, (q, x) ∈ out.ob → q = k := by
      intro base st out hu hev q' x hx
      simp only [evO, evU, evalE] at hev
      rcases hev with hev | ⟨o, hy, rfl⟩
      · simp only [evX] at hev
        rcases hu with ⟨o, hu⟩ | ⟨r, o, hu⟩ | ⟨i, o, hu⟩ <;> rw [hu] at hev <;> simp only at hev
        split at hev
        · split at hev
          · obtain ⟨_, rfl⟩ := hev; simp at hx; exact hx.1
          · exact hev.elim
        · exact hev.elim
      · exact evY_stP hu hy q' x hx
    split at h
    · rename_i q o h1 h2
      simp only [Option.some.injEq] at h; subst h
      exact .inl ⟨t, hall _ h2, fun base st out he => key base st out (.inl ⟨o, by rw [Ar.u, Ar.v, he]; exact h1⟩)⟩
    · rename_i q r o h1 h2
      simp only [Option.some.injEq] at h; subst h
      exact .inl ⟨t, hall _ h2, fun base st out he => key base st out (.inr (.inl ⟨r, o, by rw [Ar.u, Ar.v, he]; exact h1⟩))⟩
    · rename_i q i o h1 h2
      simp only [Option.some.injEq] at h; subst h
      exact .inl ⟨t, hall _ h2, fun base st out he => key base st out (.inr (.inr ⟨i, o, by rw [Ar.u, Ar.v, he]; exact h1⟩))⟩
    · cases h
  · rename_i sz b t w hg hop
    simp only at hg hop; subst hg; subst hop
    have key : ∀ (base : Nat) (st : St) (out : Out), ((∃ s xs, (Ar.s t).u st = .own k s xs) ∨ (∃ i s xs, (Ar.s t).u st = .fow k i s xs) ∨ ∃ r o l s, (Ar.s t).u st = .gsl k r o l s) → evO P base st ⟨dst, none, .app sz b (.s t) w⟩ (· = out) → ∀ q x, (q, x) ∈ out.ob → q = k := by
      intro base st out hu hev q' x hx
      simp only [evO, evU, evalE] at hev
      rcases hev with hev | ⟨o, hy, rfl⟩
      · simp only [evX] at hev
        split at hev
        · rcases hu with ⟨s, xs, hu⟩ | ⟨i, s, xs, hu⟩ | ⟨r, o, l, s, hu⟩ <;> rw [hu] at hev <;> simp only at hev
          split at hev
          · obtain ⟨_, _, _, _, _, rfl⟩ := hev; simp at hx; exact hx.1
          · exact hev.elim
        · exact hev.elim
      · exact evY_appP hu hy q' x hx
    split at h
    · rename_i q s xs h1 h2
      simp only [Option.some.injEq] at h; subst h
      exact .inl ⟨t, hall _ h2, fun base st out he => key base st out (.inl ⟨s, xs, by rw [Ar.u, Ar.v, he]; exact h1⟩)⟩
    · rename_i q i s xs h1 h2
      simp only [Option.some.injEq] at h; subst h
      exact .inl ⟨t, hall _ h2, fun base st out he => key base st out (.inr (.inl ⟨i, s, xs, by rw [Ar.u, Ar.v, he]; exact h1⟩))⟩
    · rename_i q r o l s h1 h2
      simp only [Option.some.injEq] at h; subst h
      exact .inl ⟨t, hall _ h2, fun base st out he => key base st out (.inr (.inr ⟨r, o, l, s, by rw [Ar.u, Ar.v, he]; exact h1⟩))⟩
    · cases h
  · rename_i ow sz zs ps hg hop
    simp only at hg hop; subst hg; subst hop
    split at h
    · rename_i d hd
      simp only at hd; subst hd
      split at h
      · rename_i q i s xs h1 h2
        simp only [Option.some.injEq] at h; subst h
        refine .inr ⟨d, rfl, hall2 _ h2, fun base st out he hev q' x hx => ?_⟩
        rw [h1] at he
        simp only [evO, evU, evalE] at hev
        rcases hev with hev | ⟨o, hy, rfl⟩
        · simp only [evX] at hev
          split at hev
          · split at hev
            · rcases hev.2 with hev | hev
              · split at hev <;> subst hev <;> cases he
              · subst hev; cases he
            · have := hev.2; subst this; cases he
          · exact hev.elim
        · cases hy with
          | bslO _ => cases he
          | bslF _ _ _ => simp at he hx; rw [hx.1, he.1]
      · cases h
    · cases h
  · rename_i nb xb hg hop
    simp only at hg hop; subst hg; subst hop
    split at h
    · rename_i d hd
      simp only at hd; subst hd
      split at h
      · rename_i q i o' h1 h2
        simp only [Option.some.injEq] at h; subst h
        refine .inr ⟨d, rfl, hall2 _ h2, fun base st out he hev q' x hx => ?_⟩
        rw [h1] at he
        simp only [evO, evU, evalE] at hev
        rcases hev with hev | ⟨o, hy, rfl⟩
        · simp only [evX] at hev
          split at hev
          · obtain ⟨_, hev⟩ := hev; subst hev; cases he
          · exact hev.elim
        · cases hy with
          | boxF _ _ _ _ => simp at he hx; rw [hx.1, he.1]
      · cases h
    · cases h
  · cases h

section
variable {P : Program} {ops : Array Oper}

structure Eqv (s t : St) : Prop where
  env : ∀ x, look s.env x = look t.env x
  sto : ∀ k, aget s.s.sto k = aget t.s.sto k

theorem Eqv.refl (s : St) : Eqv s s := ⟨fun _ => rfl, fun _ => rfl⟩
theorem Eqv.trans {a b c : St} (h : Eqv a b) (k : Eqv b c) : Eqv a c := ⟨fun x => (h.env x).trans (k.env x), fun x => (h.sto x).trans (k.sto x)⟩
theorem Eqv.symm {a b : St} (h : Eqv a b) : Eqv b a := ⟨fun x => (h.env x).symm, fun x => (h.sto x).symm⟩

theorem RelS.eqv {Λ : L} {s t : S} (h : RelS Λ s) (e : ∀ k, aget s.sto k = aget t.sto k) : RelS Λ t :=
  ⟨fun k o hk => h.sto k o (by rw [e]; exact hk), h.inj, h.new, h.bnd, h.frz, h.injF, h.bndF, h.frzF⟩
theorem Rel.eqv {C : Ctx} {Λ : L} {s t : St} {a : Act} (h : Rel C Λ s a) (e : Eqv s t) : Rel C Λ t a :=
  ⟨h.kp, h.size, h.defers, fun x => by rw [← e.env]; exact h.env x, h.s.eqv e.sto⟩

theorem aget_asets_out : ∀ (ob s : List (Nat × AObj)) (k : Nat), (∀ o, (k, o) ∉ ob) → aget (asets s ob) k = aget s k
  | [], s, k, _ => rfl
  | (j, o) :: r, s, k, h => by
    have hj : j ≠ k := by rintro rfl; exact h o (by simp)
    simp only [asets]
    rw [aget_asets_out r _ k (fun o' ho => h o' (List.mem_cons_of_mem _ ho)), aget_aset]; simp [hj]
theorem aget_asets_in : ∀ (ob s s' : List (Nat × AObj)) (k : Nat), (∃ o, (k, o) ∈ ob) → aget (asets s ob) k = aget (asets s' ob) k
  | [], s, s', k, h => by obtain ⟨o, h⟩ := h; simp at h
  | (j, o) :: r, s, s', k, h => by
    simp only [asets]
    by_cases hr : ∃ o', (k, o') ∈ r
    · exact aget_asets_in r _ _ k hr
    · have hr' : ∀ o', (k, o') ∉ r := fun o' ho => hr ⟨o', ho⟩
      rw [aget_asets_out r _ k hr', aget_asets_out r _ k hr', aget_aset, aget_aset]
      have : j = k := by
        obtain ⟨o', ho⟩ := h
        rcases List.mem_cons.1 ho with e | e
        · simp at e; exact e.1.symm
        · exact (hr' o' e).elim
      simp [this]
theorem aget_asets_congr (ob s s' : List (Nat × AObj)) (h : ∀ k, aget s k = aget s' k) (k : Nat) : aget (asets s ob) k = aget (asets s' ob) k := by
  by_cases hk : ∃ o, (k, o) ∈ ob
  · exact aget_asets_in ob s s' k hk
  · have hk' : ∀ o', (k, o') ∉ ob := fun o' ho => hk ⟨o', ho⟩
    rw [aget_asets_out ob _ k hk', aget_asets_out ob _ k hk', h]

theorem Eqv.app {s t : St} (h : Eqv s t) (d : Option Nat) (o : Out) : Eqv (s.app d o) (t.app d o) := by
  refine ⟨fun x => ?_, aget_asets_congr _ _ _ h.sto⟩
  cases d with
  | none => exact h.env x
  | some d => simp only [St.app, look_aset, h.env x]

theorem app_comm (s : St) {d d' : Option Nat} {o o' : Out} (hd : ∀ x, d = some x → d' ≠ some x) (ho : ∀ k a b, (k, a) ∈ o.ob → (k, b) ∉ o'.ob) : Eqv ((s.app d o).app d' o') ((s.app d' o').app d o) := by
  refine ⟨fun x => ?_, fun k => ?_⟩
  · cases d with
    | none => cases d' <;> simp [St.app, look_aset]
    | some d =>
      cases d' with
      | none => simp [St.app, look_aset]
      | some d' =>
        have : d ≠ d' := by rintro rfl; exact hd d rfl rfl
        simp only [St.app, look_aset]
        by_cases h1 : d = x
        · subst h1; simp [Ne.symm this]
        · simp [h1]
  · show aget (asets (asets s.s.sto o.ob) o'.ob) k = aget (asets (asets s.s.sto o'.ob) o.ob) k
    by_cases hk : ∃ a, (k, a) ∈ o.ob
    · obtain ⟨a, ha⟩ := hk
      rw [aget_asets_out o'.ob _ k (fun b => ho k a b ha)]
      exact aget_asets_in _ _ _ k ⟨a, ha⟩
    · have hk' : ∀ a, (k, a) ∉ o.ob := fun a ha => hk ⟨a, ha⟩
      rw [aget_asets_out o.ob _ k hk']
      by_cases hk2 : ∃ b, (k, b) ∈ o'.ob
      · exact aget_asets_in _ _ _ k hk2
      · have hk2' : ∀ b, (k, b) ∉ o'.ob := fun b hb => hk2 ⟨b, hb⟩
        rw [aget_asets_out o'.ob _ k hk2', aget_asets_out o'.ob _ k hk2', aget_asets_out o.ob _ k hk']

theorem stD_eqv (D : Nat → Bool) : ∀ (r : List AO) (os : List Out) (i : Nat) {s t : St}, Eqv s t → Eqv (stD D i s r os) (stD D i t r os)
  | [], os, i, s, t, h => by cases os <;> exact h
  | ao :: r, [], i, s, t, h => h
  | ao :: r, o :: os, i, s, t, h => by
    simp only [stD]
    refine stD_eqv D r os (i + 1) ?_
    split
    · exact h.app _ _
    · exact h

theorem stD_ext {D D' : Nat → Bool} : ∀ (r : List AO) (os : List Out) (i : Nat) (s : St), (∀ j, i ≤ j → j < i + r.length → D j = D' j) → stD D i s r os = stD D' i s r os
  | [], os, i, s, h => by cases os <;> rfl
  | ao :: r, [], i, s, h => rfl
  | ao :: r, o :: os, i, s, h => by
    simp only [stD, h i (Nat.le_refl _) (by simp)]
    exact stD_ext r os (i + 1) _ (fun j h1 h2 => h j (by omega) (by simp; omega))

theorem stD_none {D : Nat → Bool} : ∀ (r : List AO) (os : List Out) (i : Nat) (s : St), (∀ j, i ≤ j → D j = false) → stD D i s r os = s
  | [], os, i, s, h => by cases os <;> rfl
  | ao :: r, [], i, s, h => rfl
  | ao :: r, o :: os, i, s, h => by
    simp only [stD, h i (Nat.le_refl _), Bool.false_eq_true, if_false]
    exact stD_none r os (i + 1) _ (fun j h1 => h j (by omega))

theorem stD_upto : ∀ (r : List AO) (os : List Out) (i : Nat) (s : St) (n : Nat) (ao : AO) (o : Out), r[n]? = some ao → os[n]? = some o → stD (fun l => decide (l < i + n + 1)) i s r os = (stD (fun l => decide (l < i + n)) i s r os).app ao.dst o
  | [], _, _, _, n, ao, o, h, _ => by simp at h
  | _ :: _, [], _, _, n, ao, o, _, h => by simp at h
  | a :: r, p :: os, i, s, 0, ao, o, h1, h2 => by
    simp at h1 h2; subst h1; subst h2
    have e1 : decide (i < i + 0 + 1) = true := by simp
    have e2 : decide (i < i + 0) = false := by simp
    simp only [stD, e1, e2, if_true]
    rw [stD_none _ _ _ _ (fun j hj => by simp; omega), stD_none _ _ _ _ (fun j hj => by simp; omega)]
    simp
  | a :: r, p :: os, i, s, n + 1, ao, o, h1, h2 => by
    have e1 : decide (i < i + (n + 1) + 1) = true := by simp; omega
    have e2 : decide (i < i + (n + 1)) = true := by simp
    simp only [stD, e1, e2, if_true]
    have := stD_upto r os (i + 1) (s.app a.dst p) n ao o (by simpa using h1) (by simpa using h2)
    have a1 : i + 1 + n + 1 = i + (n + 1) + 1 := by omega
    have a2 : i + 1 + n = i + (n + 1) := by omega
    rw [a1, a2] at this
    exact this

theorem stD_look {D D' : Nat → Bool} {t : Nat} : ∀ (r : List AO) (os : List Out) (i : Nat) (s s' : St), (∀ j ao, r[j]? = some ao → ao.dst = some t → D (i + j) = D' (i + j)) → look s.env t = look s'.env t → look (stD D i s r os).env t = look (stD D' i s' r os).env t
  | [], os, i, s, s', h, e => by cases os <;> exact e
  | ao :: r, [], i, s, s', h, e => e
  | ao :: r, o :: os, i, s, s', h, e => by
    simp only [stD]
    refine stD_look r os (i + 1) _ _ (fun j a hj hd => by have := h (j + 1) a (by simpa using hj) hd; rw [Nat.add_assoc, Nat.add_comm 1 j]; exact this) ?_
    by_cases hd : ao.dst = some t
    · have := h 0 ao rfl hd
      simp only [Nat.add_zero] at this
      rw [this]
      split
      · simp [St.app, hd, look_aset]
      · exact e
    · have key : ∀ (u : St), look (u.app ao.dst o).env t = look u.env t := by
        intro u
        cases hdd : ao.dst with
        | none => rfl
        | some d =>
          have : d ≠ t := by rintro rfl; exact hd hdd
          simp [St.app, look_aset, this]
      have key2 : ∀ (b : Bool) (u : St), look (if b then u.app ao.dst o else u).env t = look u.env t := by
        intro b u; cases b
        · rfl
        · exact key u
      rw [key2, key2]; exact e

theorem stD_sto {D D' : Nat → Bool} : ∀ (r : List AO) (os : List Out) (i : Nat) (s s' : St), (∀ j o, os[j]? = some o → o.ob ≠ [] → D (i + j) = D' (i + j)) → s.s.sto = s'.s.sto → (stD D i s r os).s.sto = (stD D' i s' r os).s.sto
  | [], os, i, s, s', h, e => by cases os <;> exact e
  | ao :: r, [], i, s, s', h, e => e
  | ao :: r, o :: os, i, s, s', h, e => by
    simp only [stD]
    refine stD_sto r os (i + 1) _ _ (fun j a hj hd => by have := h (j + 1) a (by simpa using hj) hd; rw [Nat.add_assoc, Nat.add_comm 1 j]; exact this) ?_
    by_cases hob : o.ob = []
    · have key2 : ∀ (b : Bool) (u : St), (if b then u.app ao.dst o else u).s.sto = u.s.sto := by
        intro b u; cases b
        · rfl
        · simp [St.app, S.app, hob, asets]
      rw [key2, key2]; exact e
    · have := h 0 o rfl hob
      simp only [Nat.add_zero] at this
      rw [this]
      split
      · simp only [St.app, S.app, e]
      · exact e

/-- the object that a value names -/
def V.names (v : V) (k : Nat) : Prop := ∃ ps, pall ps ∧ ((∃ o, v.un true = (.ptr k o, ps)) ∨ v.un true = (.mp k, ps) ∨ (∃ i o, v.un true = (.fpt k i o, ps)) ∨ (∃ ver o, 0 < ver ∧ v.un true = (.gpt k ver o, ps)) ∨ ∃ ver o l z, 0 < ver ∧ v.un true = (.gsl k ver o l z, ps))

theorem V.names_live {Λ : L} {u : Value} {v : V} {k : Nat} (h : RelV Λ u v) (hn : v.names k) (hf : Free Λ k) : False := by
  obtain ⟨ps, hp, hn⟩ := hn
  have key : ∀ y : V, RelV Λ u y → ((∃ o, y = .ptr k o) ∨ y = .mp k ∨ (∃ i o, y = .fpt k i o) ∨ (∃ ver o, 0 < ver ∧ y = .gpt k ver o) ∨ ∃ ver o l z, 0 < ver ∧ y = .gsl k ver o l z) → False := by
    intro y hy hh
    rcases hh with ⟨o, rfl⟩ | rfl | ⟨i, o, rfl⟩ | ⟨ver, o, hv, rfl⟩ | ⟨ver, o, l, z, hv, rfl⟩
    · cases hy; exact hf.obj _ ‹_›
    · cases hy; exact hf.obj _ ‹_›
    · cases hy; exact hf.fob _ _ ‹_›
    · cases hy with
      | gpt _ _ h3 _ => have := hf.frf 0; omega
    · cases hy with
      | gsl _ _ h3 _ => have := hf.frf 0; omega
  cases v <;> simp only [V.un, Prod.mk.injEq] at hn
  case gd c x =>
    have hc : c = true := by
      rcases hn with ⟨o, _, rfl⟩ | ⟨_, rfl⟩ | ⟨_, _, _, rfl⟩ | ⟨_, _, _, _, rfl⟩ | ⟨_, _, _, _, _, _, rfl⟩ <;> simpa [pall] using hp
    subst hc
    cases h with
    | gd h _ =>
      refine key x (h rfl) ?_
      rcases hn with ⟨o, h1, _⟩ | ⟨h1, _⟩ | ⟨i, o, h1, _⟩ | ⟨ver, o, h0, h1, _⟩ | ⟨ver, o, l, z, h0, h1, _⟩
      · exact .inl ⟨o, h1⟩
      · exact .inr (.inl h1)
      · exact .inr (.inr (.inl ⟨i, o, h1⟩))
      · exact .inr (.inr (.inr (.inl ⟨ver, o, h0, h1⟩)))
      · exact .inr (.inr (.inr (.inr ⟨ver, o, l, z, h0, h1⟩)))
  all_goals
    refine key _ h ?_
    rcases hn with ⟨o, h1, _⟩ | ⟨h1, _⟩ | ⟨i, o, h1, _⟩ | ⟨ver, o, h0, h1, _⟩ | ⟨ver, o, l, z, h0, h1, _⟩
    · exact .inl ⟨o, h1⟩
    · exact .inr (.inl h1)
    · exact .inr (.inr (.inl ⟨i, o, h1⟩))
    · exact .inr (.inr (.inr (.inl ⟨ver, o, h0, h1⟩)))
    · exact .inr (.inr (.inr (.inr ⟨ver, o, l, z, h0, h1⟩)))

theorem pall_app1 {a b : List Bool} (h : pall (a ++ b)) : pall a := by
  induction a with
  | nil => trivial
  | cons x r ih => exact ⟨h.1, ih h.2⟩

/-- such an operation sees the same in every store that has the object -/
theorem near_congr {ao : AO} {base : Nat} {st st' : St} {out : Out} (hn : ao.near = true) (h : ∀ t ∈ ao.reads, look st.env t = look st'.env t) (he : evO P base st ao (· = out))
    (hk : ∀ t, t ∈ ao.reads → ∀ k, (look st.env t).names k → aget st.s.sto k ≠ none → aget st.s.sto k = aget st'.s.sto k) : evO P base st' ao (· = out) := by
  obtain ⟨dst, g, op⟩ := ao
  unfold AO.near at hn
  split at hn
  · rename_i ag n t hg hop
    simp only at hg hop; subst hg; subst hop
    have ht := h t (by simp [AO.reads, AOp.slots, Ar.slots])
    have hkt := hk t (by simp [AO.reads, AOp.slots, NOp.slots, Ar.slots])
    simp only [evO, evU, evX, evY_ld, or_false, looksE, evalE, rd, Ar.v] at he ⊢
    rw [← ht]
    generalize look st.env t = v at *
    cases hv : v.un true with
    | mk x p =>
      rw [hv] at he
      cases x with
      | ptr k o =>
        simp only at he ⊢
        have : aget st.s.sto k = aget st'.s.sto k := by
          cases ha : aget st.s.sto k with
          | none => rw [ha] at he; exact he.elim
          | some ob =>
            rw [← ha]
            rw [ha] at he
            refine hkt k ⟨p, ?_, .inl ⟨o, hv⟩⟩ (by rw [ha]; simp)
            cases ob with
            | cells cs =>
              simp only at he
              cases ag with
              | true =>
                simp only [if_true] at he
                split at he
                · rename_i v ps h1; split at h1
                  · simp at h1; obtain ⟨_, rfl⟩ := h1; exact he.1
                  · cases h1
                · exact he.elim
              | false =>
                simp only [Bool.false_eq_true, if_false] at he
                split at he
                · rename_i v ps h1; split at h1
                  · simp at h1; obtain ⟨_, rfl⟩ := h1; exact he.1
                  · cases h1
                · exact he.elim
            | map a b c => exact he.elim
            | arr a => exact he.elim
            | iter a b c d => exact he.elim
            | gro _ _ => exact he.elim
            | fobs _ => exact he.elim
            | farr _ => exact he.elim
            | memo _ _ => exact he.elim
        rw [← this]; exact he
      | fpt k i o =>
        simp only at he ⊢
        have : aget st.s.sto k = aget st'.s.sto k := by
          cases ha : aget st.s.sto k with
          | none => rw [ha] at he; exact he.elim
          | some ob =>
            rw [← ha]
            rw [ha] at he
            refine hkt k ⟨p, ?_, .inr (.inr (.inl ⟨i, o, hv⟩))⟩ (by rw [ha]; simp)
            cases ob with
            | fobs os =>
              simp only at he
              cases hos : os[i]? with
              | none => rw [hos] at he; exact he.elim
              | some cs =>
                rw [hos] at he
                simp only at he
                cases ag with
                | true =>
                  simp only [if_true] at he
                  split at he
                  · rename_i v ps h1; split at h1
                    · simp at h1; obtain ⟨_, rfl⟩ := h1; exact he.1
                    · cases h1
                  · exact he.elim
                | false =>
                  simp only [Bool.false_eq_true, if_false] at he
                  split at he
                  · rename_i v ps h1; split at h1
                    · simp at h1; obtain ⟨_, rfl⟩ := h1; exact he.1
                    · cases h1
                  · exact he.elim
            | _ => exact he.elim
        rw [← this]; exact he
      | gpt k ver o =>
        simp only at he ⊢
        have : aget st.s.sto k = aget st'.s.sto k := by
          cases ha : aget st.s.sto k with
          | none => rw [ha] at he; exact he.elim
          | some ob =>
            rw [← ha]
            rw [ha] at he
            cases ob with
            | gro w cs =>
              simp only at he
              have hpp : pall (p ++ [decide (0 < w), decide (ver = w)]) := by
                cases ag with
                | true =>
                  simp only [if_true] at he
                  split at he
                  · rename_i v ps h1; split at h1
                    · simp at h1; obtain ⟨_, rfl⟩ := h1; simpa using he.1
                    · cases h1
                  · exact he.elim
                | false =>
                  simp only [Bool.false_eq_true, if_false] at he
                  split at he
                  · rename_i v ps h1; split at h1
                    · simp at h1; obtain ⟨_, rfl⟩ := h1; simpa using he.1
                    · cases h1
                  · exact he.elim
              have hm := pall_mem hpp
              have m1 := of_decide_eq_true (hm (decide (0 < w)) (by simp))
              have m2 := of_decide_eq_true (hm (decide (ver = w)) (by simp))
              exact hkt k ⟨p, pall_app1 hpp, .inr (.inr (.inr (.inl ⟨ver, o, by omega, hv⟩)))⟩ (by rw [ha]; simp)
            | _ => exact he.elim
        rw [← this]; exact he
      | t z => cases z <;> exact he
      | _ => exact he
  · rename_i ks kag zv ok t y hg hop
    simp only at hg hop; subst hg; subst hop
    have ht := h t (by simp [AO.reads, AOp.slots, NOp.slots, Ar.slots])
    have hy : rd true st y = rd true st' y := rd_congr fun s hs => h s (by simp [AO.reads, AOp.slots, NOp.slots, hs])
    have hkt := hk t (by simp [AO.reads, AOp.slots, NOp.slots, Ar.slots])
    have e1 : rd true st (.s t) = (look st.env t).un true := rfl
    have e2 : rd true st' (.s t) = (look st.env t).un true := by rw [ht]; rfl
    have e3 : Ar.v st' (.s t) = look st.env t := by rw [ht]; rfl
    have e4 : Ar.v st (.s t) = look st.env t := rfl
    simp only [evO, evU, evX, evXN, evY_lookup, or_false, looksE, evalE, evalN, ← hy, e1, e2, e3, e4] at he ⊢
    generalize look st.env t = v at *
    cases hv : v.un true with
    | mk x p =>
      rw [hv] at he
      cases hyv : rd true st y with
      | mk vk p2 =>
        simp only [hyv] at he ⊢
        cases hc : keyC ks kag vk with
        | none => simp only [hc] at he
        | some cs =>
          simp only [hc] at he ⊢
          cases x with
          | mp k =>
            simp only at he ⊢
            have : aget st.s.sto k = aget st'.s.sto k := by
              cases ha : aget st.s.sto k with
              | none => rw [ha] at he; exact he.elim
              | some ob =>
                rw [← ha]
                rw [ha] at he
                refine hkt k ⟨p, ?_, .inr (.inl hv)⟩ (by rw [ha]; simp)
                cases ob with
                | map a es c =>
                  simp only at he
                  cases hm : mget cs es with
                  | some w => rw [hm] at he; exact pall_app1 he.1
                  | none => rw [hm] at he; exact pall_app1 he.1
                | cells a => exact he.elim
                | arr a => exact he.elim
                | iter a b c d => exact he.elim
                | gro _ _ => exact he.elim
                | fobs _ => exact he.elim
                | farr _ => exact he.elim
                | memo _ _ => exact he.elim
            rw [← this]; exact he
          | t z => cases z <;> exact he
          | _ => exact he
  · rename_i sz t y hg hop
    simp only at hg hop; subst hg; subst hop
    have ht := h t (by simp [AO.reads, AOp.slots, Ar.slots])
    have hy : rd true st y = rd true st' y := rd_congr fun s hs => h s (by simp [AO.reads, AOp.slots, hs])
    have hkt := hk t (by simp [AO.reads, AOp.slots, Ar.slots])
    have e1 : rd true st (.s t) = (look st.env t).un true := rfl
    have e2 : rd true st' (.s t) = (look st.env t).un true := by rw [ht]; rfl
    have e3 : Ar.v st' (.s t) = look st.env t := by rw [ht]; rfl
    have e4 : Ar.v st (.s t) = look st.env t := rfl
    simp only [evO, evU, evX, evY_ia, or_false, looksE, evalE, ← hy, e1, e2, e3, e4] at he ⊢
    generalize look st.env t = v at *
    cases hv : v.un true with
    | mk x p =>
      rw [hv] at he
      cases hyv : rd true st y with
      | mk vk p2 =>
        simp only [hyv] at he ⊢
        cases x with
        | gsl k ver off len sz' =>
          cases vk with
          | t z =>
            cases z with
            | int kd z =>
              simp only at he ⊢
              have : aget st.s.sto k = aget st'.s.sto k := by
                cases ha : aget st.s.sto k with
                | none => rw [ha] at he; exact he.elim
                | some ob =>
                  rw [← ha]
                  rw [ha] at he
                  cases ob with
                  | gro w cs =>
                    simp only at he
                    have hpp : pall (p ++ (p2 ++ [decide (0 ≤ z), decide (z < (len : Int)), decide (0 < w), decide (ver = w)])) := by
                      split at he
                      · rename_i v ps h1; split at h1
                        · simp at h1; obtain ⟨_, rfl⟩ := h1; simpa using he.1
                        · cases h1
                      · exact he.elim
                    have hm := pall_mem hpp
                    have m1 := of_decide_eq_true (hm (decide (0 < w)) (by simp))
                    have m2 := of_decide_eq_true (hm (decide (ver = w)) (by simp))
                    exact hkt k ⟨p, pall_app1 hpp, .inr (.inr (.inr (.inr ⟨ver, off, len, sz', by omega, hv⟩)))⟩ (by rw [ha]; simp)
                  | _ => exact he.elim
              rw [← this]; exact he
            | _ => exact he
          | _ => exact he
        | _ =>
          cases vk with
          | t z => cases z <;> exact he
          | _ => exact he
  · rename_i off t hg hop
    simp only at hg hop; subst hg; subst hop
    have ht := h t (by simp [AO.reads, AOp.slots, Ar.slots])
    have hkt := hk t (by simp [AO.reads, AOp.slots, Ar.slots])
    have e1 : rd true st (.s t) = (look st.env t).un true := rfl
    have e2 : rd true st' (.s t) = (look st.env t).un true := by rw [ht]; rfl
    have e3 : Ar.v st' (.s t) = look st.env t := by rw [ht]; rfl
    have e4 : Ar.v st (.s t) = look st.env t := rfl
    simp only [evO, evU, evX, evY_fa, or_false, looksE, evalE, e1, e2, e3, e4] at he ⊢
    generalize look st.env t = v at *
    cases hv : v.un true with
    | mk x p =>
      rw [hv] at he
      cases x with
      | gpt k ver o =>
        simp only at he ⊢
        have : aget st.s.sto k = aget st'.s.sto k := by
          cases ha : aget st.s.sto k with
          | none => rw [ha] at he; exact he.elim
          | some ob =>
            rw [← ha]
            rw [ha] at he
            cases ob with
            | gro w cs =>
              simp only at he
              have hpp : pall (p ++ [decide (0 < w), decide (ver = w)]) := by simpa using he.1
              have hm := pall_mem hpp
              have m1 := of_decide_eq_true (hm (decide (0 < w)) (by simp))
              have m2 := of_decide_eq_true (hm (decide (ver = w)) (by simp))
              exact hkt k ⟨p, pall_app1 hpp, .inr (.inr (.inr (.inl ⟨ver, o, by omega, hv⟩)))⟩ (by rw [ha]; simp)
            | _ => exact he.elim
        rw [← this]; exact he
      | t z => cases z <;> exact he
      | _ => exact he
  · cases hn

/-- such an operation leaves all as it is -/
theorem near_sound {ao : AO} {base : Nat} {st : St} {out : Out} {o : Oper} {i : Nat} (ho : ops[i]? = some o) (hres : resO P ops o = some ao) (hn : ao.near = true) (h : evO P base st ao (· = out)) {C : Ctx} {Λ : L} {a : Act} {next : Act → World → Prop} {Q : Exit → Act → World → Prop} (hC : C.P = P) (hr : Rel C Λ st a)
    (hle : base + out.n ≤ Λ.nxt) (hfree : ∀ k, base ≤ k → k < base + out.n → k < Λ.nxt ∧ Free Λ k ∧ aget st.s.sto k = none)
    (hnext : ∀ v Λ', Kp Λ Λ' → Λ'.nxt = Λ.nxt → RelS Λ' (st.s.app out) → RelV Λ' v out.v → (∀ k, Free Λ k → aget st.s.sto k = none → (base + out.n ≤ k ∨ k < base) → Free Λ' k) → next (a.put o.dst v) Λ'.w) :
    ao.dst = o.dst ∧ wpOp P ops Q i next a Λ.w := by
  obtain ⟨dst, g, op⟩ := ao
  have hg : g = none := by
    unfold AO.near at hn; split at hn
    · rename_i h1 _; exact h1
    · rename_i h1 _; exact h1
    · rename_i h1 _; exact h1
    · rename_i h1 _; exact h1
    · cases hn
  subst hg
  have hev : ∃ v ps, evalE true st op = some (v, ps) ∧ pall ps ∧ ({ v := v, rd := looksE st op } : Out) = out := by
    simp only [evO, evU] at h
    split at h
    · rename_i v ps he; exact ⟨v, ps, he, h.1, h.2⟩
    · unfold AO.near at hn
      split at hn
      · rename_i hop; simp only at hop; subst hop; exact (h.elim (fun h => h) evY_ld.1).elim
      · rename_i hop; simp only at hop; subst hop; exact (h.elim (fun h => h) evY_lookup.1).elim
      · rename_i hop; simp only at hop; subst hop; exact (h.elim (fun h => h) evY_ia.1).elim
      · rename_i hop; simp only at hop; subst hop; exact (h.elim (fun h => h) evY_fa.1).elim
      · cases hn
  obtain ⟨v, ps, h1, h2, rfl⟩ := hev
  unfold resO at hres
  split at hres
  · simp at hres
  · rename_i aop hop
    split at hres
    · rename_i hg
      simp only [Option.some.injEq, AO.mk.injEq] at hres
      obtain ⟨e1, _, e2⟩ := hres
      subst e2
      refine ⟨e1.symm, ?_⟩
      have hw : Region.wanted o (yielded ops a.tmps) = true := by simp [Region.wanted, hg]
      simp only [wpOp, ho, hw, if_true]
      refine .inl ?_
      exact OSound.of_E (r := false) (base := base) (evalE_all hop h1 (pall_mem h2)) C Λ a next Q hC hr hle hfree (fun u Λ' k1 k2 k3 k4 k5 => hnext u Λ' k1 k2 k3 k4 fun k f1 f2 hc => k5 k f1 f2 (by
        rcases hc with hc | hc
        · exact .inl hc
        · exact .inr ⟨hc, rfl⟩))
    · split at hres
      · simp at hres
      · cases hres

theorem near_ob {ao : AO} {base : Nat} {st : St} {out : Out} (hn : ao.near = true) (h : evO P base st ao (· = out)) : out.ob = [] := by
  obtain ⟨dst, g, op⟩ := ao
  have hg : g = none := by
    unfold AO.near at hn; split at hn
    · rename_i h1 _; exact h1
    · rename_i h1 _; exact h1
    · rename_i h1 _; exact h1
    · rename_i h1 _; exact h1
    · cases hn
  subst hg
  simp only [evO, evU] at h
  split at h
  · rw [← h.2]
  · unfold AO.near at hn
    split at hn
    · rename_i hop; simp only at hop; subst hop; exact (h.elim (fun h => h) evY_ld.1).elim
    · rename_i hop; simp only at hop; subst hop; exact (h.elim (fun h => h) evY_lookup.1).elim
    · rename_i hop; simp only at hop; subst hop; exact (h.elim (fun h => h) evY_ia.1).elim
    · rename_i hop; simp only at hop; subst hop; exact (h.elim (fun h => h) evY_fa.1).elim
    · cases hn

theorem evO_sound2 {ao : AO} {base : Nat} {st : St} {out : Out} {o : Oper} {i : Nat} (ho : ops[i]? = some o) (hres : resO P ops o = some ao) (h : evO P base st ao (· = out)) {C : Ctx} {Λ : L} {a : Act} {next : Act → World → Prop} {Q : Exit → Act → World → Prop} (hC : C.P = P) (hr : Rel C Λ st a)
    (hdst : ∀ (j : Nat) (p : Oper) (d : Nat), ops[j]? = some p → p.dst = some d → d < C.n)
    (hle : base + out.n ≤ Λ.nxt) (hfree : ∀ k, base ≤ k → k < base + out.n → k < Λ.nxt ∧ Free Λ k ∧ aget st.s.sto k = none)
    (hnext : ∀ v Λ', Kp Λ Λ' → Λ'.nxt = Λ.nxt → RelS Λ' (st.s.app out) → RelV Λ' v out.v → (∀ k, Free Λ k → aget st.s.sto k = none → (base + out.n ≤ k ∨ (k < base ∧ (out.rd = false ∨ ao.near = true))) → Free Λ' k) → next (a.put o.dst v) Λ'.w) :
    ao.dst = o.dst ∧ wpOp P ops Q i next a Λ.w := by
  cases hn : ao.near with
  | true =>
    refine near_sound ho hres hn h hC hr hle hfree fun v Λ' k1 k2 k3 k4 k5 => hnext v Λ' k1 k2 k3 k4 fun k f1 f2 hc => k5 k f1 f2 ?_
    rcases hc with hc | hc
    · exact .inl hc
    · exact .inr hc.1
  | false =>
    refine evO_sound ho hres h hC hr hdst hle hfree fun v Λ' k1 k2 k3 k4 k5 => hnext v Λ' k1 k2 k3 k4 fun k f1 f2 hc => k5 k f1 f2 ?_
    rcases hc with hc | ⟨hc, hd⟩
    · exact .inl hc
    · rcases hd with hd | hd
      · exact .inr ⟨hc, hd⟩
      · rw [hn] at hd; cases hd

theorem stD_sto1 {D D' : Nat → Bool} {k : Nat} : ∀ (r : List AO) (os : List Out) (i : Nat) (s s' : St), (∀ j o, os[j]? = some o → (∃ x, (k, x) ∈ o.ob) → D (i + j) = D' (i + j)) → aget s.s.sto k = aget s'.s.sto k → aget (stD D i s r os).s.sto k = aget (stD D' i s' r os).s.sto k
  | [], os, i, s, s', h, e => by cases os <;> exact e
  | ao :: r, [], i, s, s', h, e => e
  | ao :: r, o :: os, i, s, s', h, e => by
    simp only [stD]
    refine stD_sto1 r os (i + 1) _ _ (fun j a hj hd => by have := h (j + 1) a (by simpa using hj) hd; rw [Nat.add_assoc, Nat.add_comm 1 j]; exact this) ?_
    by_cases hob : ∃ x, (k, x) ∈ o.ob
    · have := h 0 o rfl hob
      simp only [Nat.add_zero] at this
      rw [this]
      split
      · exact aget_asets_in o.ob _ _ k hob
      · exact e
    · have key2 : ∀ (b : Bool) (u : St), aget (if b then u.app ao.dst o else u).s.sto k = aget u.s.sto k := by
        intro b u; cases b
        · rfl
        · exact aget_asets_out o.ob _ k fun x hx => hob ⟨x, hx⟩
      rw [key2, key2]; exact e
theorem stD_back {D : Nat → Bool} {k : Nat} : ∀ (r : List AO) (os : List Out) (i : Nat) (s : St), aget (stD D i s r os).s.sto k ≠ none → aget s.s.sto k ≠ none ∨ ∃ (j : Nat) (o : Out), os[j]? = some o ∧ j < r.length ∧ D (i + j) = true ∧ ∃ x, (k, x) ∈ o.ob
  | [], os, i, s, h => by cases os <;> exact .inl h
  | ao :: r, [], i, s, h => .inl h
  | ao :: r, o :: os, i, s, h => by
    simp only [stD] at h
    rcases stD_back r os (i + 1) _ h with h | ⟨j, p, h1, h2, h3, h4⟩
    · by_cases hD : D i = true
      · by_cases hob : ∃ x, (k, x) ∈ o.ob
        · exact .inr ⟨0, o, rfl, by simp, by simpa using hD, hob⟩
        · left
          simp only [hD, if_true, St.app, S.app] at h
          rw [aget_asets_out o.ob _ k fun x hx => hob ⟨x, hx⟩] at h; exact h
      · left; simpa [hD] using h
    · exact .inr ⟨j + 1, p, by simpa using h1, by simp; omega, by rw [← Nat.add_assoc, Nat.add_right_comm]; exact h3, h4⟩

/-- two operations that do not meet -/
structure Apart (ao : AO) (o : Out) (bo : AO) (p : Out) : Prop where
  dst : ∀ x, ao.dst = some x → bo.dst ≠ some x
  ob : ∀ k a b, (k, a) ∈ o.ob → (k, b) ∉ p.ob

theorem stD_app {D : Nat → Bool} {ao : AO} {o : Out} : ∀ (r : List AO) (os : List Out) (i : Nat) (s : St), (∀ j bo p, r[j]? = some bo → os[j]? = some p → D (i + j) = true → Apart ao o bo p) →
    Eqv (stD D i (s.app ao.dst o) r os) ((stD D i s r os).app ao.dst o)
  | [], os, i, s, h => by cases os <;> exact Eqv.refl _
  | bo :: r, [], i, s, h => Eqv.refl _
  | bo :: r, p :: os, i, s, h => by
    simp only [stD]
    have ih := fun u => stD_app (D := D) (ao := ao) (o := o) r os (i + 1) u (fun j b q hb hq hD => h (j + 1) b q (by simpa using hb) (by simpa using hq) (by rw [Nat.add_assoc, Nat.add_comm 1 j] at hD; exact hD))
    by_cases hD : D i = true
    · simp only [hD, if_true]
      have hap := h 0 bo p rfl rfl (by simpa using hD)
      exact (stD_eqv D r os (i + 1) (app_comm s hap.dst hap.ob)).trans (ih _)
    · simp only [hD, Bool.false_eq_true, if_false]; exact ih s

theorem stD_insert {D D' : Nat → Bool} {n : Nat} {ao : AO} {o : Out} : ∀ (r : List AO) (os : List Out) (i : Nat) (s : St), r[n]? = some ao → os[n]? = some o → D (i + n) = false → D' (i + n) = true → (∀ j, j ≠ i + n → D' j = D j) →
    (∀ j bo p, r[j]? = some bo → os[j]? = some p → n < j → D (i + j) = true → Apart ao o bo p) → Eqv (stD D' i s r os) ((stD D i s r os).app ao.dst o)
  | [], os, i, s, h1, _, _, _, _, _ => by simp at h1
  | bo :: r, [], i, s, _, h2, _, _, _, _ => by simp at h2
  | bo :: r, p :: os, i, s, h1, h2, h3, h4, h5, h6 => by
    cases n with
    | zero =>
      simp at h1 h2; subst h1; subst h2
      simp only [Nat.add_zero] at h3 h4 h5
      simp only [stD, h3, h4, if_true, Bool.false_eq_true, if_false]
      rw [stD_ext (D := D') (D' := D) r os (i + 1) _ (fun j h1 _ => h5 j (by omega))]
      exact stD_app r os (i + 1) s (fun j b q hb hq hD => h6 (j + 1) b q (by simpa using hb) (by simpa using hq) (by omega) (by rw [Nat.add_assoc, Nat.add_comm 1 j] at hD; exact hD))
    | succ n =>
      simp only [stD, h5 i (by omega)]
      have e : i + 1 + n = i + (n + 1) := by omega
      exact stD_insert r os (i + 1) _ (by simpa using h1) (by simpa using h2) (by rw [e]; exact h3) (by rw [e]; exact h4) (fun j hj => h5 j (by omega)) (fun j b q hb hq hlt hD => h6 (j + 1) b q (by simpa using hb) (by simpa using hq) (by omega) (by rw [Nat.add_assoc, Nat.add_comm 1 j] at hD; exact hD))

/-- the order of the text: each operation at its own state -/
theorem Ch.at : ∀ {r : List AO} {os : List Out} {i base : Nat} {s : St} {b' : Nat} {s' : St}, Ch P base s r os b' s' → r.length = os.length ∧ b' = base + sumN os ∧ s' = stD (fun _ => true) i s r os ∧
    ∀ (j : Nat) (ao : AO) (o : Out), r[j]? = some ao → os[j]? = some o → evO P (base + sumN (os.take j)) (stD (fun l => decide (l < i + j)) i s r os) ao (· = o)
  | [], [], i, base, s, b', s', h => by obtain ⟨rfl, rfl⟩ := h; exact ⟨rfl, rfl, rfl, by simp⟩
  | ao :: r, o :: os, i, base, s, b', s', h => by
    obtain ⟨h1, h2⟩ := h
    obtain ⟨i1, i2, i3, i4⟩ := Ch.at (i := i + 1) h2
    refine ⟨by simp [i1], by simp only [sumN]; omega, by simp only [stD, if_true]; exact i3, fun j a p ha hp => ?_⟩
    cases j with
    | zero =>
      simp at ha hp; subst ha; subst hp
      have : stD (fun l => decide (l < i + 0)) i s (ao :: r) (o :: os) = s := stD_none _ _ _ _ (fun j hj => by simp; omega)
      rw [this]; simpa [sumN] using h1
    | succ j =>
      have := i4 j a p (by simpa using ha) (by simpa using hp)
      have e1 : base + o.n + sumN (os.take j) = base + sumN ((o :: os).take (j + 1)) := by simp [sumN]; omega
      have e2 : i + 1 + j = i + (j + 1) := by omega
      rw [e1, e2] at this
      have e3 : decide (i < i + (j + 1)) = true := by simp
      simp only [stD, e3, if_true]
      exact this
  | [], _ :: _, _, _, _, _, _, h => h.elim
  | _ :: _, [], _, _, _, _, _, h => h.elim

end
end Go.GB

