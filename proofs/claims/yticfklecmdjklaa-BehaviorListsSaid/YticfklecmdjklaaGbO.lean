/-
  GbO: slice literals, make, calls; every operation does what its evaluation says.
-/
import Derived.Test.YticfklecmdjklaaGbN
namespace Go.GB
section
variable {P : Program} {o : Oper} {base : Nat} {st : St}

theorem setAt_flat {sz : Nat} : ∀ (xs : List (List T)) (i : Nat) (c : List T), (∀ (i : Nat) (c : List T), xs[i]? = some c → c.length = sz) → c.length = sz → i < xs.length →
    setAt (xs.flatten.map V.t) (i * sz) (c.map V.t) = ((xs.set i c).flatten.map V.t) := by
  intro xs i c hs hc hi
  apply List.ext_getElem?
  intro p
  have hl := flat_len xs hs
  have hs' : ∀ (j : Nat) (d : List T), (xs.set i c)[j]? = some d → d.length = sz := by
    intro j d hj
    by_cases e : i = j
    · subst e; rw [List.getElem?_set_self hi] at hj; simp at hj; subst hj; exact hc
    · rw [List.getElem?_set_ne e] at hj; exact hs j d hj
  have hl' := flat_len (xs.set i c) hs'
  have hin : i * sz + sz ≤ xs.length * sz := by rw [← Nat.succ_mul]; exact Nat.mul_le_mul_right _ hi
  rw [setAt_get _ _ _ _ (by simp only [List.length_map]; omega)]
  simp only [List.length_map]
  rcases Nat.eq_zero_or_pos sz with h0 | h0
  · subst h0
    have e1 : xs.flatten = [] := List.length_eq_zero_iff.1 (by omega)
    have e2 : (xs.set i c).flatten = [] := List.length_eq_zero_iff.1 (by omega)
    rw [if_neg (by omega), e1, e2]
  by_cases hp : p < xs.length * sz
  · have d1 : p / sz < xs.length := Nat.div_lt_of_lt_mul (by rwa [Nat.mul_comm] at hp)
    have d2 : p % sz < sz := Nat.mod_lt _ h0
    have d3 : p / sz * sz + p % sz = p := by rw [Nat.mul_comm]; exact Nat.div_add_mod p sz
    by_cases hpi : p / sz = i
    · subst hpi
      rw [if_pos (by omega)]
      have e : p - p / sz * sz = p % sz := by omega
      have hcl : p % sz < c.length := by omega
      have := flat_get (xs.set (p / sz) c) hs' (p / sz) (p % sz) c c[p % sz] (by simp [d1]) (by simp [hcl])
      rw [d3] at this
      rw [e]
      rw [List.getElem?_map, List.getElem?_map, this]; simp [hcl]
    · have hno : ¬ (i * sz ≤ p ∧ p < i * sz + c.length) := by
        rintro ⟨h1, h2⟩
        apply hpi
        rw [hc] at h2
        have : p / sz = i := by
          apply Nat.div_eq_of_lt_le
          · exact h1
          · rw [Nat.succ_mul]; exact h2
        exact this
      rw [if_neg hno]
      have hdl : p % sz < xs[p / sz].length := by rw [hs (p / sz) _ (by simp [d1])]; exact d2
      have a1 := flat_get xs hs (p / sz) (p % sz) xs[p / sz] (xs[p / sz][p % sz]) (by simp [d1]) (by simp [hdl])
      have a2 := flat_get (xs.set i c) hs' (p / sz) (p % sz) xs[p / sz] (xs[p / sz][p % sz]) (by rw [List.getElem?_set]; simp [Ne.symm hpi, d1]) (by simp [hdl])
      rw [d3] at a1 a2
      rw [List.getElem?_map, List.getElem?_map, a1, a2]
  · rw [if_neg (by omega)]
    rw [List.getElem?_eq_none (by simp only [List.length_map]; omega), List.getElem?_eq_none (by simp only [List.length_map]; rw [hl']; simp; omega)]

theorem cellsT_relC {Λ : L} {v : Value} {x : V} {c : List T} (h : RelV Λ v x) (hc : x.cellsT = some c) : RelC Λ v.cells (c.map V.t) := by
  have one : ∀ {v : Value} {y : T}, v.cells = #[v] → RepT Λ.lab Λ.w v y → RelC Λ v.cells [V.t y] := by
    intro v y hv hy
    rw [hv]
    refine ⟨rfl, fun j u d hu hd => ?_⟩
    cases j with
    | zero => simp at hu hd; subst hu; subst hd; exact .t hy
    | succ j => simp at hd
  have hone : ∀ {v : Value} {y : T}, RepT Λ.lab Λ.w v y → v.cells = #[v] := by intro v y hy; cases hy <;> rfl
  have gen : ∀ {y : T}, x.cell1 = some y → c = [y] → RelC Λ v.cells (c.map V.t) := by
    intro y h1 h2
    subst h2
    have := h.cell1 h1
    exact one (hone this) this
  cases h with
  | agg hs h =>
    simp only [V.cellsT] at hc
    rename_i vs cs
    have key : ∀ (cs : List V) (c : List T), cs.mapM V.cell1 = some c → cs.length = c.length ∧ ∀ (j : Nat) (d : V) (y : T), cs[j]? = some d → c[j]? = some y → d.cell1 = some y := by
      intro cs
      induction cs with
      | nil => intro c h; simp at h; subst h; simp
      | cons d cs ih =>
        intro c h
        simp only [List.mapM_cons, Option.bind_eq_bind, Option.pure_def, Option.bind_eq_some_iff] at h
        obtain ⟨y, hy, c', hc', h⟩ := h
        simp at h; subst h
        obtain ⟨i1, i2⟩ := ih c' hc'
        refine ⟨by simp [i1], fun j e z h1 h2 => ?_⟩
        cases j with
        | zero => simp at h1 h2; subst h1; subst h2; exact hy
        | succ j => exact i2 j e z (by simpa using h1) (by simpa using h2)
    obtain ⟨k1, k2⟩ := key cs c hc
    refine ⟨by simp [Value.cells, hs, k1], fun j u d hu hd => ?_⟩
    rw [List.getElem?_map, Option.map_eq_some_iff] at hd
    obtain ⟨y, hy, rfl⟩ := hd
    have hlt : j < cs.length := by rw [k1]; exact (List.getElem?_eq_some_iff.1 hy).1
    have := h j u cs[j] hu (by simp [hlt])
    exact .t (this.cell1 (k2 j _ y (by simp [hlt]) hy))
  | t h => simp [V.cellsT, V.cell1] at hc; exact gen rfl hc.symm
  | nils => simp [V.cellsT, V.cell1] at hc; exact gen rfl hc.symm
  | own h a b c' d => simp [V.cellsT, V.cell1] at hc; exact gen rfl hc.symm
  | slc a c h => simp [V.cellsT, V.cell1] at hc
  | tup _ _ => simp [V.cellsT, V.cell1] at hc
  | ptr a h => simp [V.cellsT, V.cell1] at hc
  | mp a h => simp [V.cellsT, V.cell1] at hc
  | fn hs h => simp [V.cellsT, V.cell1] at hc
  | gd _ _ => simp [V.cellsT, V.cell1] at hc
  | top => simp [V.cellsT, V.cell1] at hc

theorem pure_fill {C : Ctx} {Λ : L} {ac : Act} (h : Rel C Λ st ac) (sz : Nat) : ∀ (parts : List (Nat × Operand)) (ps : List (Nat × Ar)) (arr : Array Value) (zs xs : List (List T)),
    slotsOf parts = some ps → RelC Λ arr (zs.flatten.map V.t) → (∀ (i : Nat) (c : List T), zs[i]? = some c → c.length = sz) → pureParts st sz zs ps = some xs →
    ∃ arr', Instr.fill (fun i => some (i * sz, sz)) arr (parts.map fun (i, x) => (i, ac.eval x)) = some arr' ∧ RelC Λ arr' (xs.flatten.map V.t) ∧ (∀ (i : Nat) (c : List T), xs[i]? = some c → c.length = sz) ∧ xs.length = zs.length
  | [], ps, arr, zs, xs, hps, hr, hs, hf => by
    simp [slotsOf] at hps; subst hps; simp [pureParts] at hf; subst hf
    exact ⟨arr, rfl, hr, hs, rfl⟩
  | (i, x) :: parts, ps, arr, zs, xs, hps, hr, hs, hf => by
    simp only [slotsOf] at hps
    split at hps
    · rename_i a l h1 h2
      simp at hps; subst hps
      simp only [pureParts] at hf
      split at hf
      · rename_i c hc
        split at hf
        · rename_i hcond
          have hrc := cellsT_relC (h.opu h1) hc
          have hfold := RelC.foldl (i * sz) (ac.eval x).cells.toList (c.map V.t) 0 arr (zs.flatten.map V.t) (by simpa using hrc.1) (fun j a b e1 e2 => hrc.2 j a b (by simpa using e1) e2) hr
          rw [Nat.add_zero, setAt_flat zs i c hs hcond.1 hcond.2] at hfold
          have hs' : ∀ (j : Nat) (d : List T), (zs.set i c)[j]? = some d → d.length = sz := by
            intro j d hj
            by_cases e : i = j
            · subst e; rw [List.getElem?_set_self hcond.2] at hj; simp at hj; subst hj; exact hcond.1
            · rw [List.getElem?_set_ne e] at hj; exact hs j d hj
          obtain ⟨arr', e1, e2, e3, e4⟩ := pure_fill h sz parts l _ _ xs h2 hfold hs' hf
          refine ⟨arr', ?_, e2, e3, by simpa using e4⟩
          have hsz : (ac.eval x).cells.size = sz := by rw [hrc.1]; simpa using hcond.1
          have hsz2 : arr.size = zs.length * sz := by rw [hr.1, List.length_map, flat_len zs hs]
          have hin : i * sz + sz ≤ zs.length * sz := by rw [← Nat.succ_mul]; exact Nat.mul_le_mul_right _ hcond.2
          simp only [List.map_cons, Instr.fill, hsz]
          have : ¬ (i * sz + sz > arr.size) := by omega
          simp only [ne_eq, not_true_eq_false, decide_false, this, Bool.or_self, Bool.false_eq_true, if_false]
          rw [← e1]
          congr 1
          rw [← Array.foldl_toList, Array.toList_zipIdx]
        · simp at hf
      · simp at hf
    · simp at hps

theorem made_relC {Λ : L} {zc : Array Value} {cs : List V} (h : RelC Λ zc cs) (n : Nat) : RelC Λ ((Array.range (n * zc.size)).map (zc[· % zc.size]!)) (List.replicate n cs).flatten := by
  have hall : ∀ (i : Nat) (c : List V), (List.replicate n cs)[i]? = some c → c.length = zc.size := by
    intro i c hc
    have := List.mem_of_getElem? hc
    rw [List.mem_replicate] at this
    rw [this.2, h.1]
  have hlen := flat_len _ hall
  simp only [List.length_replicate] at hlen
  refine ⟨by simp [hlen], fun j v c hv hc => ?_⟩
  have hj : j < n * zc.size := by have := (List.getElem?_eq_some_iff.1 hc).1; omega
  have h0 : 0 < zc.size := by rcases Nat.eq_zero_or_pos zc.size with h | h; · rw [h] at hj; omega
                              · exact h
  have d1 : j / zc.size < n := Nat.div_lt_of_lt_mul (by rwa [Nat.mul_comm] at hj)
  have d2 : j % zc.size < zc.size := Nat.mod_lt _ h0
  have d3 : j / zc.size * zc.size + j % zc.size = j := by rw [Nat.mul_comm]; exact Nat.div_add_mod j zc.size
  have hcl : j % zc.size < cs.length := by rw [← h.1]; exact d2
  have := flat_get _ hall (j / zc.size) (j % zc.size) cs cs[j % zc.size] (by simp [d1]) (by simp [hcl])
  rw [d3, hc] at this
  simp at this; subst this
  have hv' : v = zc[j % zc.size] := by
    rw [Array.getElem?_map, Array.getElem?_range] at hv
    simp [hj] at hv
    rw [← hv]
    simp [d2]
  subst hv'
  exact h.2 (j % zc.size) _ _ (Array.getElem?_eq_getElem d2) (List.getElem?_eq_getElem hcl)

theorem mapM_cell1 : ∀ (cs : List V) (c : List T), cs.mapM V.cell1 = some c → cs.length = c.length ∧ ∀ (j : Nat) (d : V) (y : T), cs[j]? = some d → c[j]? = some y → d.cell1 = some y := by
  intro cs
  induction cs with
  | nil => intro c h; simp at h; subst h; simp
  | cons d cs ih =>
    intro c h
    simp only [List.mapM_cons, Option.bind_eq_bind, Option.pure_def, Option.bind_eq_some_iff] at h
    obtain ⟨y, hy, c', hc', h⟩ := h
    simp at h; subst h
    obtain ⟨i1, i2⟩ := ih c' hc'
    refine ⟨by simp [i1], fun j e z h1 h2 => ?_⟩
    cases j with
    | zero => simp at h1 h2; subst h1; subst h2; exact hy
    | succ j => exact i2 j e z (by simpa using h1) (by simpa using h2)

theorem relC_pure {Λ : L} {arr : Array Value} {cs : List V} {c : List T} (h : RelC Λ arr cs) (hc : cs.mapM V.cell1 = some c) : RelC Λ arr (c.map V.t) := by
  obtain ⟨k1, k2⟩ := mapM_cell1 cs c hc
  refine ⟨by simp [h.1, k1], fun j u d hu hd => ?_⟩
  rw [List.getElem?_map, Option.map_eq_some_iff] at hd
  obtain ⟨y, hy, rfl⟩ := hd
  have hlt : j < cs.length := by rw [k1]; exact (List.getElem?_eq_some_iff.1 hy).1
  exact .t ((h.2 j u cs[j] hu (by simp [hlt])).cell1 (k2 j _ y (by simp [hlt]) hy))

theorem run_buildSlice {t e : TypeId} {i : TypeInfo} {z : Value} {n : Nat} {parts : Array (Nat × Operand)} {a : Act} {w : World} {arr : Array Value} (ho : o.op = .buildSlice t n parts) (ht : P.underlying t = some (.slice e)) (hi : P.info? e = some i) (hz : i.zero = some z) (hzs : z.cells.size = i.size)
    (hle : n * i.size ≤ 16777216) (hf : Instr.fill (fun j => some (j * i.size, i.size)) ((Array.range (n * z.cells.size)).map (z.cells[· % z.cells.size]!)) (parts.toList.map fun (j, x) => (j, a.eval x)) = some arr) :
    (execOp a.eval o).run P w = .ok (.value (.slice (some ⟨w.heap.size, 0, none⟩) n n)) (w.alloc (.cells arr e)) := by
  simp only [execOp, ho]
  have hle' : ¬ (16777216 < n * i.size) := by omega
  rw [hzs] at hf
  by_cases h0 : n * i.size = 0
  · rw [h0] at hf
    have hf' : Instr.fill (fun j => some (j * i.size, i.size)) ((Array.range 0).map ((#[] : Array Value)[· % (#[] : Array Value).size]!)) (parts.toList.map fun (j, x) => (j, a.eval x)) = some arr := by
      rw [← hf]; congr 1; simp [Array.range_zero']
    simp [Instr.buildSlice, run_underlying ht, sizeOf, typeInfo, hi, h0, newRow]
    have hf2 := hf'
    simp at hf2
    simp [hf2]
  · simp [Instr.buildSlice, run_underlying ht, sizeOf, typeInfo, zeroValue, hi, hz, h0, hle', newRow]
    rw [← hzs] at hf
    rw [hzs] at hf
    simp [hf, hzs]

/-- what is known of a slice literal -/
structure BslOp (P : Program) (o : Oper) (sz : Nat) (zs : List (List T)) (ps : List (Nat × Ar)) where
  t : TypeId
  e : TypeId
  n : Nat
  parts : Array (Nat × Operand)
  zv : List V
  z : List T
  ho : o.op = .buildSlice t n parts
  ht : P.underlying t = some (.slice e)
  hs : szOf P e = some sz
  hzv : zerosOf P e = some zv
  hz : zv.mapM V.cell1 = some z
  hle : n * sz ≤ 16777216
  hzs : zs = List.replicate n z
  hps : slotsOf parts.toList = some ps

theorem bsl_run {sz : Nat} {zs xs : List (List T)} {ps : List (Nat × Ar)} (B : BslOp P o sz zs ps) {C : Ctx} {Λ : L} {a : Act} (hr : Rel C Λ st a) (hx : pureParts st sz zs ps = some xs) :
    ∃ arr, (execOp a.eval o).run P Λ.w = .ok (.value (.slice (some ⟨Λ.w.heap.size, 0, none⟩) xs.length xs.length)) (Λ.w.alloc (.cells arr B.e)) ∧ RelC Λ arr (xs.flatten.map V.t) ∧ (∀ (i : Nat) (c : List T), xs[i]? = some c → c.length = sz) := by
  obtain ⟨i, zval, hi, hz1, hlen, hok⟩ := zerosOf_spec B.hzv
  have hsz : i.size = sz := by have := B.hs; unfold szOf at this; rw [hi] at this; simpa using this
  have hrc := relC_pure (zeros_relC (Λ := Λ) hok) B.hz
  have hzl : zval.cells.size = sz := by rw [(zeros_relC (Λ := Λ) hok).1, hlen]; exact hsz
  have hmade := made_relC hrc B.n
  have hfl : (List.replicate B.n (B.z.map V.t)).flatten = (zs.flatten.map V.t) := by have e := B.hzs; generalize B.n = n at *; generalize B.z = z at *; subst e; simp
  rw [hfl] at hmade
  have hzall : ∀ (i : Nat) (c : List T), zs[i]? = some c → c.length = sz := by
    intro j c hc
    rw [B.hzs] at hc
    have := List.mem_of_getElem? hc
    rw [List.mem_replicate] at this
    rw [this.2]
    have := hrc.1
    simp at this; omega
  obtain ⟨arr, e1, e2, e3, e4⟩ := pure_fill hr sz _ _ _ _ _ B.hps hmade hzall hx
  have hn : xs.length = B.n := by have e := congrArg List.length B.hzs; simp at e; omega
  refine ⟨arr, ?_, e2, e3⟩
  rw [hn]
  exact run_buildSlice B.ho B.ht hi hz1 (by rw [hzl, hsz]) (by rw [hsz]; exact B.hle) (by rw [hsz]; exact e1)

theorem o_bsl {sz : Nat} {zs xs : List (List T)} {ps : List (Nat × Ar)} (B : BslOp P o sz zs ps) (hx : pureParts st sz zs ps = some xs) : OSound P o base st { v := .t (.lst xs) } := by
  intro C Λ a next Q hC hr hle hfree hnext
  obtain ⟨arr, h1, h2, h3⟩ := bsl_run B hr hx
  unfold Oper.wp
  rw [h1]
  have g := Grew.alloc Λ.w (.cells arr B.e)
  have hkp := Kp.new g hr.s.new (.fix none)
  have hlab : ∀ b, relab Λ.lab Λ.w.heap.size (.fix none) b = Λ.lab b := by
    intro b
    by_cases e : b = Λ.w.heap.size
    · subst e; rw [relab_same]; exact (hr.s.new _ (Nat.le_refl _)).symm
    · exact relab_ne e
  have hfun : relab Λ.lab Λ.w.heap.size (.fix none) = Λ.lab := funext hlab
  rw [hfun] at hkp
  refine hnext _ { Λ with w := Λ.w.alloc (.cells arr B.e) } hkp rfl ?_ ?_ (fun k hk _ _ => ⟨hk.obj, hk.arr, hk.fro⟩)
  · refine hr.s.step hkp rfl (fun k ob hk => .inl ⟨hk, fun b hb => g.old ?_, rfl⟩) hr.s.inj (fun b hb => hr.s.new b (by have := g.size; simp only at hb; omega)) hr.s.bnd hr.s.frz
    rcases Nat.lt_or_ge b Λ.w.heap.size with h' | h'
    · exact h'
    · rw [hr.s.new b h'] at hb; simp at hb
  · refine .t (rep_block (sz := sz) (vs := arr.toList) g.top (Nat.le_refl _) rfl h3 (fun o _ => by simp [Rd, hr.s.new _ (Nat.le_refl _)]) (fun j v hj => by simpa using hj) (by rw [Array.length_toList, h2.1, List.length_map, flat_len xs h3]) fun j v x e1 e2 => ?_)
    exact (h2.2 j v (.t x) (by simpa using e1) (by simp only [List.getElem?_map, e2]; rfl)).repT.mono hkp.fr

theorem o_bsl_own {sz : Nat} {zs xs : List (List T)} {ps : List (Nat × Ar)} (B : BslOp P o sz zs ps) (hx : pureParts st sz zs ps = some xs) : OSound P o base st { v := .own base sz xs, ob := [(base, .arr xs.length)], n := 1 } := by
  intro C Λ a next Q hC hr hle hfree hnext
  obtain ⟨arr, h1, h2, h3⟩ := bsl_run B hr hx
  unfold Oper.wp
  rw [h1]
  obtain ⟨hb1, hb2, hb3⟩ := hfree base (Nat.le_refl _) (by simp)
  have g := Grew.alloc Λ.w (.cells arr B.e)
  have hk1 : Kp Λ { Λ with fro := refro Λ.fro base xs.length } := Kp.refro (by rw [hb2.fro]; omega)
  obtain ⟨k1, k2, k3⟩ := new_arr (fr := xs.length * sz) hr.s hk1 rfl rfl rfl (fun _ => .inl rfl) g hb1 rfl
  have hal : arr.size = xs.length * sz := by rw [h2.1, List.length_map, flat_len xs h3]
  refine hnext _ _ k1 rfl k2 (.own ?_ h3 hb1 (by simp [refro]) (fun _ => .inr ⟨Λ.w.heap.size, xs.length, arr, B.e, rfl, by simp [relab], g.top, hal, Nat.le_refl _⟩)) (fun k hk _ hlt => k3 k hk (by simp at hlt; omega))
  refine rep_block (sz := sz) (vs := arr.toList) g.top (Nat.le_refl _) rfl h3 (fun o ho => by simp [Rd, relab]; exact ho) (fun j v hj => by simpa using hj) (by rw [Array.length_toList, hal]) fun j v x e1 e2 => ?_
  exact (h2.2 j v (.t x) (by simpa using e1) (by simp only [List.getElem?_map, e2]; rfl)).repT.mono k1.fr

theorem o_mksl {t e : TypeId} {l : Nat} {i : TypeInfo} {zs : List V} {k : IntKind} {m : Int} (ho : o.op = .makeSlice t (.tmp l) (.tmp l)) (ht : P.underlying t = some (.slice e)) (hi : P.info? e = some i) (hz : zerosOf P e = some zs)
    (hm : (look st.env l).ug = .t (.int k m)) (h0 : 0 ≤ m) (hb : m * i.bytes ≤ 281474976710656) (h63 : m ≤ 9223372036854775807) :
    OSound P o base st { v := .slc base 0 m.toNat i.size, ob := [(base, .cells (List.replicate m.toNat zs).flatten)], n := 1 } := by
  intro C Λ a next Q hC hr hle hfree hnext
  obtain ⟨i', z, hi', hz1, hlen, hok⟩ := zerosOf_spec hz
  rw [hi] at hi'; simp at hi'; subst hi'
  have hl := (hr.env l).ug
  rw [hm] at hl
  have el : a.eval (.tmp l) = .int k m := hl.repT.int_inv
  have hrc := zeros_relC (Λ := Λ) hok
  have hzl : z.cells.size = i.size := by rw [hrc.1, hlen]
  have hrun : (execOp a.eval o).run P Λ.w = .ok (.value (.slice (some ⟨Λ.w.heap.size, 0, none⟩) m.toNat m.toNat)) (Λ.w.alloc (.cells (madeCells z.cells (m.toNat * i.size)) e)) := by
    simp only [execOp, ho, el]
    simp [run_make (P := P) Λ.w t e i z ht hi hz1 k k m m h0 (Int.le_refl _) (by rw [Int.mul_comm]; exact hb) h63]
  unfold Oper.wp
  rw [hrun]
  obtain ⟨hb1, hb2, hb3⟩ := hfree base (Nat.le_refl _) (by simp)
  have g := Grew.alloc Λ.w (.cells (madeCells z.cells (m.toNat * i.size)) e)
  have hkp := Kp.new g hr.s.new (.obj base)
  have hmade := made_relC hrc m.toNat
  rw [hzl] at hmade
  have hmm : RelC Λ (madeCells z.cells (m.toNat * i.size)) (List.replicate m.toNat zs).flatten := by
    unfold madeCells; rw [hzl]; exact hmade
  obtain ⟨k1, k2, k3⟩ := new_obj hr.s g hb1 hb2 rfl (ao := .cells (List.replicate m.toNat zs).flatten) ⟨Λ.w.heap.size, _, _, by simp [relab_same], g.top, hmm.1, fun j v c e1 e2 => (hmm.2 j v c e1 e2).mono hkp⟩
  exact hnext _ _ k1 rfl k2 (.slc hb1 (Nat.le_refl _) (by simp [relab_same])) (fun k hk _ hlt => k3 k hk (by simp at hlt; omega))

end
end Go.GB
