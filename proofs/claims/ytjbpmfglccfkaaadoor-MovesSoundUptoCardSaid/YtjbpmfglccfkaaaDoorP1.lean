/-
  YtjbpmfglccfkaaaDoorP1: lemmas of this proof (part 1). No conditions.
-/
import Derived.Test.YtjbpmfglccfkaaaDoorP0
import Derived.Laws.StructEq
import Derived.MapKept
import Derived.Laws.Externs
import Derived.KernelRfl
import Derived.Maps.RangeRun

/-
  GbM: slices made, built and grown.
-/
namespace Go.GB
section
variable {P : Program} {o : Oper} {base : Nat} {st : St}

/-- the cells of a list of elements, one after the other -/
theorem flat_get {α : Type} {sz : Nat} : ∀ (xs : List (List α)), (∀ (i : Nat) (c : List α), xs[i]? = some c → c.length = sz) → ∀ (i j : Nat) (c : List α) (x : α), xs[i]? = some c → c[j]? = some x → xs.flatten[i * sz + j]? = some x
  | [], _, i, j, c, x, h, _ => by simp at h
  | d :: r, hs, 0, j, c, x, h, hj => by
    simp at h; subst h
    have hl := hs 0 d rfl
    have hjl := (List.getElem?_eq_some_iff.1 hj).1
    simp only [List.flatten_cons, Nat.zero_mul, Nat.zero_add]
    rw [List.getElem?_append_left hjl]; exact hj
  | d :: r, hs, i + 1, j, c, x, h, hj => by
    have hl := hs 0 d rfl
    have ih := flat_get r (fun i c hc => hs (i + 1) c (by simpa using hc)) i j c x (by simpa using h) hj
    simp only [List.flatten_cons]
    rw [List.getElem?_append_right (by rw [hl, Nat.add_mul]; omega)]
    have : (i + 1) * sz + j - d.length = i * sz + j := by rw [hl, Nat.add_mul]; omega
    rw [this]; exact ih

theorem flat_len {α : Type} {sz : Nat} : ∀ (xs : List (List α)), (∀ (i : Nat) (c : List α), xs[i]? = some c → c.length = sz) → xs.flatten.length = xs.length * sz
  | [], _ => by simp
  | d :: r, hs => by
    have hl := hs 0 d rfl
    have ih := flat_len r (fun i c hc => hs (i + 1) c (by simpa using hc))
    simp only [List.flatten_cons, List.length_append, List.length_cons, ih, hl, Nat.add_mul]; omega

/-- a block whose cells begin with these trees reads as their list -/
theorem rep_block {l : Nat → Lab} {w : World} {b n cap sz : Nat} {arr : Array Value} {e : TypeId} {fz : Nat × Nat} {xs : List (List T)} {vs : List Value} (hb : w.heap[b]? = some (.cells arr e fz)) (hcap : n ≤ cap) (hn : xs.length = n)
    (hsz : ∀ (i : Nat) (c : List T), xs[i]? = some c → c.length = sz) (hr : ∀ o, o < n * sz → Rd l b o) (hv : ∀ (j : Nat) (v : Value), vs[j]? = some v → arr[j]? = some v) (hvl : vs.length = n * sz)
    (hx : ∀ (j : Nat) (v : Value) (x : T), vs[j]? = some v → xs.flatten[j]? = some x → RepT l w v x) : RepT l w (.slice (some ⟨b, 0, none⟩) n cap) (.lst xs) := by
  subst hn
  have hlt : ∀ (i j : Nat) (c : List T) (x : T), xs[i]? = some c → c[j]? = some x → i * sz + j < vs.length := by
    intro i j c x h1 h2
    have e1 := flat_get xs hsz i j c x h1 h2
    have := (List.getElem?_eq_some_iff.1 e1).1
    rw [flat_len xs hsz] at this; omega
  refine .lst _ cap sz xs b 0 (fun i j => vs.getD (i * sz + j) undef) hcap hsz (fun _ _ _ _ _ _ => rfl) ?_ ?_ ?_
  · intro i j c x h1 h2
    exact hr _ (by have := hlt i j c x h1 h2; omega)
  · intro i j c x h1 h2
    have h3 := hlt i j c x h1 h2
    rw [cell_of_row w b _ arr e fz hb, Nat.zero_add]
    rw [hv _ (vs[i * sz + j]) (by simp [h3])]
    simp [h3]
  · intro i j c x h1 h2
    have h3 := hlt i j c x h1 h2
    exact hx (i * sz + j) _ x (by simp [h3]) (flat_get xs hsz i j c x h1 h2)

/-- the cells of a slice that reads as a list -/
theorem RepT.cells {l : Nat → Lab} {w : World} {v : Value} {sz : Nat} {xs : List (List T)} (h : RepT l w v (.lst xs)) (hsz : ∀ (i : Nat) (c : List T), xs[i]? = some c → c.length = sz) (h0 : 0 < xs.length) (hs0 : 0 < sz) :
    ∃ (b off cap : Nat) (vs : List Value), v = .slice (some ⟨b, off, none⟩) xs.length cap ∧ xs.length ≤ cap ∧ vs.length = xs.length * sz ∧ (∀ (j : Nat) (u : Value), vs[j]? = some u → w.cell? ⟨b, off + j, none⟩ = some u ∧ Rd l b (off + j)) ∧
      (∀ (j : Nat) (u : Value) (x : T), vs[j]? = some u → xs.flatten[j]? = some x → RepT l w u x) := by
  cases h with
  | lst a cap sz' _ b off vf hcap hsz' ha hr hc hrep =>
    have hc0 : xs[0]? = some xs[0] := by simp [h0]
    have e0 : sz' = sz := by rw [← hsz' 0 _ hc0, ← hsz 0 _ hc0]
    subst e0
    have hl0 : 0 < xs[0].length := by rw [hsz 0 _ hc0]; exact hs0
    have ea := ha 0 0 xs[0] xs[0][0] hc0 (by simp [hl0])
    subst ea
    have hdm : ∀ j, j < xs.length * sz' → j / sz' < xs.length ∧ j % sz' < sz' ∧ j / sz' * sz' + j % sz' = j := by
      intro j hj
      refine ⟨Nat.div_lt_of_lt_mul (by rwa [Nat.mul_comm] at hj), Nat.mod_lt _ hs0, by rw [Nat.mul_comm]; exact Nat.div_add_mod j sz'⟩
    have hat : ∀ j, (hj : j < xs.length * sz') → ∃ c x, xs[j / sz']? = some c ∧ c[j % sz']? = some x := by
      intro j hj
      obtain ⟨d1, d2, d3⟩ := hdm j hj
      refine ⟨xs[j / sz'], xs[j / sz'][j % sz']'(by rw [hsz (j / sz') _ (by simp [d1])]; exact d2), by simp [d1], by simp⟩
    refine ⟨b, off, cap, (List.range (xs.length * sz')).map fun j => vf (j / sz') (j % sz'), rfl, hcap, by simp, fun j u hu => ?_, fun j u x hu hx => ?_⟩
    · have hj : j < xs.length * sz' := by
        have := (List.getElem?_eq_some_iff.1 hu).1
        simpa using this
      rw [List.getElem?_map, List.getElem?_range hj] at hu
      simp at hu; subst hu
      obtain ⟨c, x, e1, e2⟩ := hat j hj
      have e3 := hc _ _ c x e1 e2
      have e4 := hr _ _ c x e1 e2
      rw [Nat.add_assoc, (hdm j hj).2.2] at e3 e4
      exact ⟨e3, e4⟩
    · have hj : j < xs.length * sz' := by
        have := (List.getElem?_eq_some_iff.1 hx).1
        rwa [flat_len xs hsz] at this
      rw [List.getElem?_map, List.getElem?_range hj] at hu
      simp at hu; subst hu
      obtain ⟨c, y, e1, e2⟩ := hat j hj
      have e3 := flat_get xs hsz _ _ c y e1 e2
      rw [(hdm j hj).2.2, hx] at e3
      simp at e3; subst e3
      exact hrep _ _ c x e1 e2

/-- a new block for an array; its old block, if any, has been left -/
theorem new_arr {Λ Λ1 : L} {s : S} {w' : World} {ob : Obj} {k n fr : Nat} (h : RelS Λ s) (h1 : Kp Λ Λ1) (hw : Λ1.w = Λ.w) (hx : Λ1.nxt = Λ.nxt) (hf : Λ1.fro = refro Λ.fro k n)
    (hlab : ∀ b, Λ1.lab b = Λ.lab b ∨ (∃ m fr, Λ.lab b = .arr k m ∧ Λ1.lab b = .fix fr)) (g : Grew Λ.w w' ob) (hk : k < Λ.nxt) {Λ' : L} (hΛ : Λ' = { lab := relab Λ1.lab Λ.w.heap.size (.arr k fr), fro := Λ1.fro, nxt := Λ.nxt, w := w' }) :
    Kp Λ Λ' ∧ RelS Λ' { s with sto := aset s.sto k (.arr n) } ∧ ∀ j, Free Λ j → j ≠ k → Free Λ' j := by
  subst hΛ
  have hnew1 : ∀ b, Λ.w.heap.size ≤ b → Λ1.lab b = .fix none := by
    intro b hb
    rcases hlab b with e | ⟨m, f, e, _⟩
    · rw [e]; exact h.new b hb
    · rw [h.new b hb] at e; simp at e
  have hkp : Kp Λ { lab := relab Λ1.lab Λ.w.heap.size (.arr k fr), fro := Λ1.fro, nxt := Λ.nxt, w := w' } := by
    have h2 := Kp.new (Λ := Λ1) (w' := w') (o := ob) (by rw [hw]; exact g) (by rw [hw]; exact hnew1) (.arr k fr)
    have h3 := h1.trans h2
    rw [hw, hx] at h3
    exact h3
  have hobj : ∀ b j, relab Λ1.lab Λ.w.heap.size (.arr k fr) b = .obj j → Λ.lab b = .obj j := by
    intro b j hb
    by_cases e : b = Λ.w.heap.size
    · subst e; rw [relab_same] at hb; simp at hb
    · rw [relab_ne e] at hb
      rcases hlab b with e | ⟨m, f, _, e⟩
      · rw [← e]; exact hb
      · rw [e] at hb; simp at hb
  have harr : ∀ b j m, relab Λ1.lab Λ.w.heap.size (.arr k fr) b = .arr j m → j = k ∨ Λ.lab b = .arr j m := by
    intro b j m hb
    by_cases e : b = Λ.w.heap.size
    · subst e; rw [relab_same] at hb; simp at hb; exact .inl hb.1.symm
    · rw [relab_ne e] at hb
      rcases hlab b with e | ⟨m, f, _, e⟩
      · rw [e] at hb; exact .inr hb
      · rw [e] at hb; simp at hb
  refine ⟨hkp, h.step hkp rfl (fun j ob' hj => ?_) (fun b b' j e1 e2 => h.inj b b' j (hobj b j e1) (hobj b' j e2)) (fun b hb => ?_) (fun b j hb => ?_) (fun j hj => ?_), fun j hj hne => ⟨fun b hb => hj.obj b (hobj b j hb), fun b m hb => ?_, ?_⟩⟩
  · simp only at hj
    rw [aget_aset] at hj
    split at hj
    · rename_i e; subst e; simp at hj; subst hj
      exact .inr ⟨hk, by simp only [RelO, hf, refro_same]⟩
    · rename_i hne
      refine .inl ⟨hj, fun b hb => g.old ?_, by simp only [hf]; exact refro_ne (Ne.symm hne)⟩
      rcases Nat.lt_or_ge b Λ.w.heap.size with h' | h'
      · exact h'
      · rw [h.new b h'] at hb; simp at hb
  · simp only at hb ⊢
    rw [g.size] at hb
    rw [relab_ne (by omega)]; exact hnew1 b (by omega)
  · rcases hb with hb | ⟨m, hb⟩
    · exact h.bnd b j (.inl (hobj b j hb))
    · rcases harr b j m hb with rfl | hb'
      · exact hk
      · exact h.bnd b j (.inr ⟨m, hb'⟩)
  · simp only [hf]; rw [refro_ne (by omega)]; exact h.frz j hj
  · rcases harr b j m hb with rfl | hb'
    · exact hne rfl
    · exact hj.arr b m hb'
  · simp only [hf]; rw [refro_ne hne]; exact hj.fro

/-- an array grows in its block -/
theorem same_arr {Λ : L} {s : S} {w' : World} {b k n fr fr' : Nat} (h : RelS Λ s) (g : Wrote Λ.w w' b) (hb : Λ.lab b = .arr k fr) (hfr : fr ≤ fr') (hc : ∀ o, o < fr → w'.cell? ⟨b, o, none⟩ = Λ.w.cell? ⟨b, o, none⟩) (hn : Λ.fro k < n)
    {Λ' : L} (hΛ : Λ' = { Λ with lab := relab Λ.lab b (.arr k fr'), fro := refro Λ.fro k n, w := w' }) :
    Kp Λ Λ' ∧ RelS Λ' { s with sto := aset s.sto k (.arr n) } ∧ ∀ j, Free Λ j → Free Λ' j := by
  subst hΛ
  have hkp := Kp.grown g hb hfr hc hn
  have hk : k < Λ.nxt := h.bnd b k (.inr ⟨_, hb⟩)
  have hobj : ∀ c j, relab Λ.lab b (.arr k fr') c = .obj j → Λ.lab c = .obj j ∧ c ≠ b := by
    intro c j hc
    by_cases e : c = b
    · subst e; rw [relab_same] at hc; simp at hc
    · rw [relab_ne e] at hc; exact ⟨hc, e⟩
  have harr : ∀ c j m, relab Λ.lab b (.arr k fr') c = .arr j m → ∃ m', Λ.lab c = .arr j m' := by
    intro c j m hc
    by_cases e : c = b
    · subst e; rw [relab_same] at hc; simp at hc; rw [← hc.1]; exact ⟨_, hb⟩
    · rw [relab_ne e] at hc; exact ⟨_, hc⟩
  refine ⟨hkp, h.step hkp rfl (fun j ob' hj => ?_) (fun c c' j e1 e2 => h.inj c c' j (hobj c j e1).1 (hobj c' j e2).1) (fun c hcc => ?_) (fun c j hc => ?_) (fun j hj => ?_), fun j hj => ⟨fun c hc => hj.obj c (hobj c j hc).1, fun c m hc => ?_, ?_⟩⟩
  · simp only at hj
    rw [aget_aset] at hj
    split at hj
    · rename_i e; subst e; simp at hj; subst hj
      exact .inr ⟨hk, by simp only [RelO, refro_same]⟩
    · rename_i hne
      refine .inl ⟨hj, fun c hcc => g.old c ?_, refro_ne (Ne.symm hne)⟩
      intro e; rw [e, hb] at hcc; simp at hcc
  · simp only at hcc ⊢
    rw [g.size] at hcc
    have : c ≠ b := by intro e; rw [e] at hcc; rw [h.new _ hcc] at hb; simp at hb
    rw [relab_ne this]; exact h.new c hcc
  · rcases hc with hc | ⟨m, hc⟩
    · exact h.bnd c j (.inl (hobj c j hc).1)
    · obtain ⟨m', e⟩ := harr c j m hc; exact h.bnd c j (.inr ⟨m', e⟩)
  · show refro Λ.fro k n j = 0
    rw [refro_ne (by omega)]; exact h.frz j hj
  · obtain ⟨m', e⟩ := harr c j m hc; exact hj.arr c m' e
  · have : j ≠ k := by rintro rfl; exact hj.arr b fr hb
    show refro Λ.fro k n j = 0
    rw [refro_ne this]; exact hj.fro

end
end Go.GB


/-
  GbN: append, slice literals, make.
-/
namespace Go.GB
section
variable {P : Program} {o : Oper} {base : Nat} {st : St}

theorem run_op_append {t ty : TypeId} {x y : Operand} {args : Array Operand} {ats : Array TypeId} {a : Act} {w w' : World} {r : Value} (ho : o.op = .call { callee := .builtin .append, args := args, argTypes := ats }) (hty : o.type = ty)
    (ha : args.toList = [x, y]) (hat : ats.toList = [t, t]) (h : (Builtin.append_ #[t, t] ty #[a.eval x, a.eval y]).run P w = .ok r w') : (execOp a.eval o).run P w = .ok (.value r) w' := by
  have e1 : args.map a.eval = #[a.eval x, a.eval y] := by apply Array.ext'; simp [ha]
  have e2 : ats = #[t, t] := by apply Array.ext'; simp [hat]
  subst e2; subst hty
  simp only [execOp, ho, resolve, Sem.run_bind, Sem.run_pure, Result.andThen_ok, invoke, builtin, e1]
  simp [h]

theorem run_append_zero {t ty e : TypeId} {i : TypeInfo} (ht : P.underlying t = some (.slice e)) (hi : P.info? e = some i) (b : Option Addr) (n cap : Nat) (hn : n ≤ cap) (a : Option Addr) (c : Nat) (w : World) :
    (Builtin.append_ #[t, t] ty #[.slice b n cap, .slice a 0 c]).run P w = .ok (.slice b n cap) w := by
  cases a with
  | none => cases b <;> simp [Builtin.append_, run_underlying ht, sizeOf, typeInfo, hi, Builtin.lenOf, hn, Builtin.firstCells, storeCells]
  | some a =>
    have hl : (loadCells a 0).run P w = .ok #[] w := by
      have := run_loadCells_list (P := P) w a [] (by simp)
      simpa using this
    cases b <;> simp [Builtin.append_, run_underlying ht, sizeOf, typeInfo, hi, Builtin.lenOf, hn, Builtin.firstCells, hl, storeCells]

theorem run_append_room' {t ty e e' : TypeId} {i : TypeInfo} (w : World) (ht : P.underlying t = some (.slice e)) (hi : P.info? e = some i)
    (g sLen sCap : Nat) (cur : Array Value) (hg : w.heap[g]? = some (.cells cur e' (0, 0)))
    (a : Addr) (m c : Nat) (news : List Value) (hl : news.length = m * i.size) (hnews : ∀ j u, news[j]? = some u → w.cell? (a.add j) = some u) (h1 : ∀ u ∈ news, u.oneCell' = true)
    (hroom : sLen + m ≤ sCap) (hfit : sLen * i.size + news.length ≤ cur.size) :
    (Builtin.append_ #[t, t] ty #[.slice (some ⟨g, 0, none⟩) sLen sCap, .slice (some a) m c]).run P w =
      .ok (.slice (some ⟨g, 0, none⟩) (sLen + m) sCap) (w.setRow g (cur.toList.take (sLen * i.size) ++ news ++ cur.toList.drop (sLen * i.size + news.length)).toArray) := by
  have hf := run_firstCells_some (P := P) w i.size m a m c news hl hnews
  have hst := run_storeCells_at P g (sLen * i.size) e' news 0 cur w hg (by simpa using hfit) h1
  simp only [Nat.add_zero] at hst
  simp [Builtin.append_, run_underlying ht, sizeOf, typeInfo, hi, Builtin.lenOf, hroom, hf, Addr.add_lit, hst]

theorem RepT.oneCell {l : Nat → Lab} {w : World} {v : Value} {x : T} (h : RepT l w v x) : v.oneCell' = true := by cases h <;> rfl

/-- what is known of an append's operands -/
structure AppOp (P : Program) (o : Oper) (sz bytes : Nat) (x' y' : Ar) where
  x : Operand
  y : Operand
  args : Array Operand
  ats : Array TypeId
  t : TypeId
  e : TypeId
  inf : TypeInfo
  z : Value
  ho : o.op = .call { callee := .builtin .append, args := args, argTypes := ats }
  ha : args.toList = [x, y]
  hat : ats.toList = [t, t]
  ht : P.underlying t = some (.slice e)
  hi : P.info? e = some inf
  hz : inf.zero = some z
  hs : inf.size = sz
  hb : inf.bytes = bytes
  h0 : 0 < sz
  hzs : z.cells.size = sz
  hx : opA x = some x'
  hy : opA y = some y'

theorem allLen_append {sz : Nat} {xs ys : List (List T)} (hx : ∀ (i : Nat) (c : List T), xs[i]? = some c → c.length = sz) (hy : ∀ (i : Nat) (c : List T), ys[i]? = some c → c.length = sz) :
    ∀ (i : Nat) (c : List T), (xs ++ ys)[i]? = some c → c.length = sz := by
  intro i c h
  by_cases hi : i < xs.length
  · rw [List.getElem?_append_left hi] at h; exact hx i c h
  · rw [List.getElem?_append_right (by omega)] at h; exact hy _ c h

/-- a nil slice grows into a new block of a name k -/
theorem app_nil {sz bytes : Nat} {x' y' : Ar} (A : AppOp P o sz bytes x' y') {C : Ctx} {Λ : L} {a : Act} (hr : Rel C Λ st a) {k : Nat} {ys : List (List T)} (hk : k < Λ.nxt) (hfro : Λ.fro k = 0) {ad : Option Addr} (hnil : a.eval A.x = .slice ad 0 0)
    (hy : RepT Λ.lab Λ.w (a.eval A.y) (.lst ys)) (hl : ∀ (i : Nat) (c : List T), ys[i]? = some c → c.length = sz) (hroom : ys.length * bytes ≤ 140737488355328) (h63 : ys.length ≤ 9223372036854775807) :
    ∃ v Λ', (execOp a.eval o).run P Λ.w = .ok (.value v) Λ'.w ∧ Kp Λ Λ' ∧ Λ'.nxt = Λ.nxt ∧ RelS Λ' { st.s with sto := aset st.s.sto k (.arr ys.length) } ∧ RelV Λ' v (.own k sz ys) ∧ ∀ j, Free Λ j → j ≠ k → Free Λ' j := by
  by_cases hy0 : ys.length = 0
  · have hys : ys = [] := List.length_eq_zero_iff.1 hy0
    subst hys
    generalize hv : a.eval A.y = u at hy
    have hrun : (execOp a.eval o).run P Λ.w = .ok (.value (.slice ad 0 0)) Λ.w := by
      refine run_op_append A.ho rfl A.ha A.hat ?_
      rw [hnil, hv]
      cases hy with
      | lst a' cap _ _ _ _ _ _ _ _ _ _ _ => exact run_append_zero A.ht A.hi ad 0 0 (Nat.le_refl _) a' cap Λ.w
    have hkp := Kp.refl Λ
    refine ⟨_, Λ, hrun, hkp, rfl, ?_, .own .nil (by simp) hk (by simp) (fun _ => .inl ⟨⟨_, rfl⟩, rfl⟩), fun j hj _ => hj⟩
    refine hr.s.step hkp rfl (fun j ob hj => ?_) hr.s.inj hr.s.new hr.s.bnd hr.s.frz
    simp only at hj
    rw [aget_aset] at hj
    split at hj
    · rename_i e; subst e; simp at hj; subst hj; exact .inr ⟨hk, hfro⟩
    · exact .inl ⟨hj, fun _ _ => rfl, rfl⟩
  · obtain ⟨b, off, cap, vs, hv, hcap, hvl, hvc, hvr⟩ := hy.cells hl (by omega) A.h0
    have hrun' : (Builtin.append_ #[A.t, A.t] o.type #[.slice ad 0 0, .slice (some ⟨b, off, none⟩) ys.length cap]).run P Λ.w =
        .ok (.slice (some ⟨Λ.w.heap.size, 0, none⟩) ys.length (grownCap Λ.w ys.length 0 A.e)) (Λ.w.drew.alloc (.cells (vs.toArray ++ Builtin.zeroCells A.z.cells (grownCap Λ.w ys.length 0 A.e - ys.length)) A.e)) := by
      cases ad with
      | none => exact run_append_nil (P := P) Λ.w A.t o.type A.e A.inf A.z A.ht A.hi A.hz ⟨b, off, none⟩ ys.length cap vs (by rw [A.hs]; exact hvl) (fun j u hu => by rw [add_mk]; exact (hvc j u hu).1) (by omega) (by omega) (by rw [A.hb]; omega)
      | some ad =>
        have := run_append_grow (P := P) Λ.w A.t o.type A.e A.inf A.z A.ht A.hi A.hz ad 0 0 [] (by simp) (by simp) ⟨b, off, none⟩ ys.length cap vs (by rw [A.hs]; exact hvl) (fun j u hu => by rw [add_mk]; exact (hvc j u hu).1) (by omega) (by omega) (by rw [Nat.zero_add, nextslicecap_zero (by omega), A.hb]; omega)
        simpa only [Nat.zero_add, List.append_toArray, List.nil_append] using this
    have hrun := run_op_append (x := A.x) (y := A.y) (a := a) A.ho rfl A.ha A.hat (by rw [hnil, hv]; exact hrun')
    have g := Grew.drewAlloc Λ.w (.cells (vs.toArray ++ Builtin.zeroCells A.z.cells (grownCap Λ.w ys.length 0 A.e - ys.length)) A.e)
    have h1 : Kp Λ { Λ with fro := refro Λ.fro k ys.length } := Kp.refro (by omega)
    obtain ⟨k1, k2, k3⟩ := new_arr (fr := ys.length * sz) hr.s h1 rfl rfl rfl (fun _ => .inl rfl) g hk rfl
    have hge := grownCap_ge Λ.w ys.length 0 A.e
    refine ⟨_, _, hrun, k1, rfl, k2, .own ?_ hl hk (by simp [refro]) (fun _ => .inr ⟨Λ.w.heap.size, _, _, _, rfl, by simp [relab], g.top, ?_, hge⟩), k3⟩
    · refine rep_block (sz := sz) (vs := vs) g.top hge rfl hl (fun o ho => by simp [Rd, relab]; exact ho) (fun j v hj => ?_) hvl (fun j v x h1 h2 => (hvr j v x h1 h2).mono k1.fr)
      rw [Array.getElem?_append_left (by have := (List.getElem?_eq_some_iff.1 hj).1; simpa using this)]; simpa using hj
    · simp only [Array.size_append, List.size_toArray, size_zeroCells, A.hzs, hvl]
      rw [← Nat.add_mul]; congr 1; omega

theorem o_app_nil {sz bytes : Nat} {x' y' : Ar} {ys : List (List T)} (A : AppOp P o sz bytes x' y') (hxv : x'.u st = .nils) (hyv : (y'.u st).cell1 = some (.lst ys)) (hl : allLen sz ys = true) (hroom : ys.length * bytes ≤ 140737488355328) (h63 : ys.length ≤ 9223372036854775807) :
    OSound P o base st { v := .own base sz ys, ob := [(base, .arr ys.length)], n := 1 } := by
  intro C Λ a next Q hC hr hle hfree hnext
  have hx1 := hr.opu A.hx
  rw [hxv] at hx1
  obtain ⟨ad, hnil⟩ : ∃ ad, a.eval A.x = .slice ad 0 0 := by generalize a.eval A.x = u at hx1; cases hx1; exact ⟨_, rfl⟩
  obtain ⟨hb1, hb2, hb3⟩ := hfree base (Nat.le_refl _) (by simp)
  obtain ⟨v, Λ', h1, h2, h3, h4, h5, h6⟩ := app_nil A hr hb1 hb2.fro hnil ((hr.opu A.hy).cell1 hyv) (allLen_at hl) hroom h63
  unfold Oper.wp
  rw [h1]
  exact hnext v Λ' h2 h3 h4 h5 (fun k hk _ hlt => h6 k hk (by simp at hlt; omega))

theorem o_app_own {sz bytes k : Nat} {x' y' : Ar} {xs ys : List (List T)} (A : AppOp P o sz bytes x' y') (hxv : x'.u st = .own k sz xs) (hk : aget st.s.sto k = some (.arr xs.length)) (hyv : (y'.u st).cell1 = some (.lst ys)) (hl : allLen sz ys = true)
    (hroom : (xs.length + ys.length) * bytes ≤ 140737488355328) (h63 : xs.length + ys.length ≤ 9223372036854775807) :
    OSound P o base st { v := .own k sz (xs ++ ys), ob := [(k, .arr (xs.length + ys.length))], rd := true } := by
  intro C Λ a next Q hC hr hle hfree hnext
  have hx1 := hr.opu A.hx
  rw [hxv] at hx1
  obtain ⟨hkn, hfk⟩ := hr.s.sto k _ hk
  have hfk : Λ.fro k = xs.length := hfk
  have hy1 := (hr.opu A.hy).cell1 hyv
  have hlY := allLen_at hl
  unfold Oper.wp
  generalize hxe : a.eval A.x = vx at hx1
  cases hx1 with
  | own hrep hsz _ _ how =>
  rcases how hfk.symm with ⟨⟨ad, rfl⟩, hx0⟩ | ⟨b, cap, arr, e', hvx, hlb, hhb, hac, hnc⟩
  · have hxs : xs = [] := List.length_eq_zero_iff.1 hx0
    subst hxs
    obtain ⟨v, Λ', h1, h2, h3, h4, h5, h6⟩ := app_nil A hr hkn hfk hxe hy1 hlY (by simpa using hroom) (by simpa using h63)
    rw [h1]
    refine hnext v Λ' h2 h3 (by simpa [S.app, asets] using h4) (by simpa using h5) (fun j hj hn _ => h6 j hj ?_)
    rintro rfl; rw [hk] at hn; simp at hn
  · subst hvx
    by_cases hy0 : ys.length = 0
    · have hys : ys = [] := List.length_eq_zero_iff.1 hy0
      subst hys
      have hrun : (execOp a.eval o).run P Λ.w = .ok (.value (.slice (some ⟨b, 0, none⟩) xs.length cap)) Λ.w := by
        refine run_op_append A.ho rfl A.ha A.hat ?_
        rw [hxe]
        generalize a.eval A.y = u at hy1
        cases hy1 with
        | lst a' cap' _ _ _ _ _ _ _ _ _ _ _ => exact run_append_zero A.ht A.hi _ _ _ hnc a' cap' Λ.w
      rw [hrun]
      refine hnext _ Λ (Kp.refl Λ) rfl ?_ (by simpa using RelV.own hrep hsz hkn (by omega) how) (fun j hj _ _ => hj)
      refine hr.s.step (Kp.refl Λ) rfl (fun j ob hj => ?_) hr.s.inj hr.s.new hr.s.bnd hr.s.frz
      simp only [S.app, asets] at hj
      rw [aget_aset] at hj
      split at hj
      · rename_i e; subst e; simp at hj; subst hj; exact .inr ⟨hkn, hfk⟩
      · exact .inl ⟨hj, fun _ _ => rfl, rfl⟩
    · obtain ⟨yb, yoff, ycap, vs, hv, hcap, hvl, hvc, hvr⟩ := hy1.cells hlY (by omega) A.h0
      have hone : ∀ u ∈ vs, u.oneCell' = true := by
        intro u hu
        obtain ⟨j, hj⟩ := List.mem_iff_getElem?.1 hu
        have hjl := (List.getElem?_eq_some_iff.1 hj).1
        have hfl : j < ys.flatten.length := by rw [flat_len ys hlY]; omega
        exact (hvr j u ys.flatten[j] hj (by simp)).oneCell
      -- the old cells
      have hold : ∃ us : List Value, us.length = xs.length * sz ∧ (∀ (j : Nat) (u : Value), us[j]? = some u → arr[j]? = some u) ∧ ∀ (j : Nat) (u : Value) (x : T), us[j]? = some u → xs.flatten[j]? = some x → RepT Λ.lab Λ.w u x := by
        by_cases hx0 : xs.length = 0
        · exact ⟨[], by simp [hx0], by simp, by simp⟩
        · obtain ⟨b', off', cap', us, e1, e2, e3, e4, e5⟩ := hrep.cells hsz (by omega) A.h0
          simp at e1
          obtain ⟨⟨rfl, rfl⟩, rfl⟩ := e1
          refine ⟨us, e3, fun j u hu => ?_, e5⟩
          have := (e4 j u hu).1
          rw [cell_of_row Λ.w b _ arr e' _ hhb] at this
          simpa using this
      obtain ⟨us, hul, huc, hur⟩ := hold
      have hflat : (xs ++ ys).flatten = xs.flatten ++ ys.flatten := by simp
      have hboth : ∀ (j : Nat) (u : Value) (x : T), (us ++ vs)[j]? = some u → (xs ++ ys).flatten[j]? = some x → RepT Λ.lab Λ.w u x := by
        intro j u x h1 h2
        rw [hflat] at h2
        have hxl := flat_len xs hsz
        by_cases hj : j < us.length
        · rw [List.getElem?_append_left hj] at h1
          rw [List.getElem?_append_left (by omega)] at h2
          exact hur j u x h1 h2
        · rw [List.getElem?_append_right (by omega)] at h1
          rw [List.getElem?_append_right (by omega)] at h2
          rw [hxl, ← hul] at h2
          exact hvr _ u x h1 h2
      by_cases hrm : xs.length + ys.length ≤ cap
      · have hfit : xs.length * A.inf.size + vs.length ≤ arr.size := by
          rw [A.hs, hvl, hac, ← Nat.add_mul]; exact Nat.mul_le_mul_right _ hrm
        have hrun' := run_append_room' (P := P) (ty := o.type) Λ.w A.ht A.hi b xs.length cap arr hhb ⟨yb, yoff, none⟩ ys.length ycap vs (by rw [A.hs]; exact hvl) (fun j u hu => by rw [add_mk]; exact (hvc j u hu).1) hone hrm hfit
        have hrun := run_op_append (x := A.x) (y := A.y) (a := a) A.ho rfl A.ha A.hat (by rw [hxe, hv]; exact hrun')
        rw [hrun]
        rw [A.hs] at hfit ⊢
        have harrL : ∀ j, j < xs.length * sz → (arr.toList.take (xs.length * sz) ++ vs ++ arr.toList.drop (xs.length * sz + vs.length)).toArray[j]? = arr[j]? := by
          intro j hj
          have : (arr.toList.take (xs.length * sz)).length = xs.length * sz := by simp; omega
          simp only [List.getElem?_toArray]
          rw [List.append_assoc, List.getElem?_append_left (by omega), List.getElem?_take, if_pos hj]
          simp
        have hsz2 : (arr.toList.take (xs.length * sz) ++ vs ++ arr.toList.drop (xs.length * sz + vs.length)).toArray.size = cap * sz := by simp; omega
        have hget2 : ∀ (j : Nat) (v : Value), (us ++ vs)[j]? = some v → (arr.toList.take (xs.length * sz) ++ vs ++ arr.toList.drop (xs.length * sz + vs.length)).toArray[j]? = some v := by
          intro j v hj
          by_cases hjl : j < us.length
          · rw [List.getElem?_append_left hjl] at hj
            rw [harrL j (by omega)]; exact huc j v hj
          · rw [List.getElem?_append_right (by omega)] at hj
            have : (arr.toList.take (xs.length * sz)).length = xs.length * sz := by simp; omega
            simp only [List.getElem?_toArray]
            have hjv := (List.getElem?_eq_some_iff.1 hj).1
            rw [List.append_assoc, List.getElem?_append_right (by omega), List.getElem?_append_left (by omega), this, ← hul]; exact hj
        generalize (arr.toList.take (xs.length * sz) ++ vs ++ arr.toList.drop (xs.length * sz + vs.length)).toArray = A2 at *
        obtain ⟨k1, k2, k3⟩ := same_arr (n := xs.length + ys.length) (fr' := (xs.length + ys.length) * sz) hr.s (Wrote.setRow Λ.w b A2) hlb (Nat.mul_le_mul_right _ (by omega)) (fun o ho => by
          rw [cell_setRow_same _ _ _ _ _ _ _ hhb, cell_of_row Λ.w b o arr e' _ hhb]; exact harrL o ho) (by omega) rfl
        refine hnext (.slice (some ⟨b, 0, none⟩) (xs.length + ys.length) cap) _ k1 rfl k2 (.own ?_ (allLen_append hsz hlY) hkn (by simp [refro]) (fun _ => .inr ⟨b, cap, A2, e', by simp, by simp [relab], setRow_heap _ _ _ _ _ _ hhb, hsz2, by simpa using hrm⟩)) (fun j hj _ _ => k3 j hj)
        · exact rep_block (sz := sz) (vs := us ++ vs) (setRow_heap _ _ _ _ _ _ hhb) hrm (by simp) (allLen_append hsz hlY) (fun o ho => by simp [Rd, relab] at ho ⊢; exact ho) hget2 (by simp [hul, hvl, Nat.add_mul]) (fun j v x h1 h2 => (hboth j v x h1 h2).mono k1.fr)
      · have hrun' := run_append_grow (P := P) Λ.w A.t o.type A.e A.inf A.z A.ht A.hi A.hz ⟨b, 0, none⟩ xs.length cap us (by rw [A.hs]; exact hul)
          (fun j u hu => by rw [add_mk, cell_of_row Λ.w b _ arr e' _ hhb, Nat.zero_add]; exact huc j u hu) ⟨yb, yoff, none⟩ ys.length ycap vs (by rw [A.hs]; exact hvl) (fun j u hu => by rw [add_mk]; exact (hvc j u hu).1) (by omega) (by omega)
          (by rw [A.hb]; exact growslice_fits (by omega) hroom)
        have hrun := run_op_append (x := A.x) (y := A.y) (a := a) A.ho rfl A.ha A.hat (by rw [hxe, hv]; exact hrun')
        rw [hrun]
        have g := Grew.drewAlloc Λ.w (.cells (us.toArray ++ vs.toArray ++ Builtin.zeroCells A.z.cells (grownCap Λ.w (xs.length + ys.length) cap A.e - (xs.length + ys.length))) A.e)
        have h1 := Kp.left (n := xs.length + ys.length) hlb (by omega)
        obtain ⟨k1, k2, k3⟩ := new_arr (n := xs.length + ys.length) (fr := (xs.length + ys.length) * sz) hr.s h1 rfl rfl rfl (fun c => by
          by_cases e : c = b
          · subst e; exact .inr ⟨xs.length * sz, some (xs.length * sz), hlb, by simp [relab]⟩
          · exact .inl (by simp [relab, e])) g hkn rfl
        have hge := grownCap_ge Λ.w (xs.length + ys.length) cap A.e
        refine hnext (.slice (some ⟨Λ.w.heap.size, 0, none⟩) (xs.length + ys.length) (grownCap Λ.w (xs.length + ys.length) cap A.e)) _ k1 rfl k2 (.own ?_ (allLen_append hsz hlY) hkn (by simp [refro]) (fun _ => .inr ⟨Λ.w.heap.size, grownCap Λ.w (xs.length + ys.length) cap A.e, _, A.e, by simp, by simp [relab], g.top, ?_, by simpa using hge⟩)) (fun j hj hn _ => k3 j hj ?_)
        · refine rep_block (sz := sz) (vs := us ++ vs) g.top hge (by simp) (allLen_append hsz hlY) (fun o ho => by simp [Rd, relab] at ho ⊢; exact ho) (fun j v hj => ?_) (by simp [hul, hvl, Nat.add_mul]) (fun j v x h1 h2 => (hboth j v x h1 h2).mono k1.fr)
          have hjl := (List.getElem?_eq_some_iff.1 hj).1
          rw [Array.getElem?_append_left (by simpa using hjl)]
          have : (us.toArray ++ vs.toArray)[j]? = (us ++ vs)[j]? := by simp
          rw [this]; exact hj
        · simp only [Array.size_append, List.size_toArray, size_zeroCells, A.hzs, hvl, hul]
          rw [← Nat.add_mul, ← Nat.add_mul]; congr 1; omega
        · rintro rfl; rw [hk] at hn; simp at hn

end
end Go.GB


/-
  GbO: slice literals, make, calls; every operation does what its evaluation says.
-/
namespace Go.GB
section
variable {P : Program} {o : Oper} {base : Nat} {st : St}

theorem setAt_flat {sz : Nat} : ∀ (xs : List (List T)) (i : Nat) (c : List T), (∀ (i : Nat) (c : List T), xs[i]? = some c → c.length = sz) → c.length = sz → i < xs.length →
    setAt (xs.flatten.map V.t) (i * sz) (c.map V.t) = ((xs.set i c).flatten.map V.t) := by
  intro xs i c hs hc hi
  apply List.ext_getElem?
  intro p
  have hl := flat_len xs hs
  have hs' : ∀ (j : Nat) (d : List T), (xs.set i c)[j]? = some d → d.length = sz := by
    intro j d hj
    by_cases e : i = j
    · subst e; rw [List.getElem?_set_self hi] at hj; simp at hj; subst hj; exact hc
    · rw [List.getElem?_set_ne e] at hj; exact hs j d hj
  have hl' := flat_len (xs.set i c) hs'
  have hin : i * sz + sz ≤ xs.length * sz := by rw [← Nat.succ_mul]; exact Nat.mul_le_mul_right _ hi
  rw [setAt_get _ _ _ _ (by simp only [List.length_map]; omega)]
  simp only [List.length_map]
  rcases Nat.eq_zero_or_pos sz with h0 | h0
  · subst h0
    have e1 : xs.flatten = [] := List.length_eq_zero_iff.1 (by omega)
    have e2 : (xs.set i c).flatten = [] := List.length_eq_zero_iff.1 (by omega)
    rw [if_neg (by omega), e1, e2]
  by_cases hp : p < xs.length * sz
  · have d1 : p / sz < xs.length := Nat.div_lt_of_lt_mul (by rwa [Nat.mul_comm] at hp)
    have d2 : p % sz < sz := Nat.mod_lt _ h0
    have d3 : p / sz * sz + p % sz = p := by rw [Nat.mul_comm]; exact Nat.div_add_mod p sz
    by_cases hpi : p / sz = i
    · subst hpi
      rw [if_pos (by omega)]
      have e : p - p / sz * sz = p % sz := by omega
      have hcl : p % sz < c.length := by omega
      have := flat_get (xs.set (p / sz) c) hs' (p / sz) (p % sz) c c[p % sz] (by simp [d1]) (by simp [hcl])
      rw [d3] at this
      rw [e]
      rw [List.getElem?_map, List.getElem?_map, this]; simp [hcl]
    · have hno : ¬ (i * sz ≤ p ∧ p < i * sz + c.length) := by
        rintro ⟨h1, h2⟩
        apply hpi
        rw [hc] at h2
        have : p / sz = i := by
          apply Nat.div_eq_of_lt_le
          · exact h1
          · rw [Nat.succ_mul]; exact h2
        exact this
      rw [if_neg hno]
      have hdl : p % sz < xs[p / sz].length := by rw [hs (p / sz) _ (by simp [d1])]; exact d2
      have a1 := flat_get xs hs (p / sz) (p % sz) xs[p / sz] (xs[p / sz][p % sz]) (by simp [d1]) (by simp [hdl])
      have a2 := flat_get (xs.set i c) hs' (p / sz) (p % sz) xs[p / sz] (xs[p / sz][p % sz]) (by rw [List.getElem?_set]; simp [Ne.symm hpi, d1]) (by simp [hdl])
      rw [d3] at a1 a2
      rw [List.getElem?_map, List.getElem?_map, a1, a2]
  · rw [if_neg (by omega)]
    rw [List.getElem?_eq_none (by simp only [List.length_map]; omega), List.getElem?_eq_none (by simp only [List.length_map]; rw [hl']; simp; omega)]

theorem cellsT_relC {Λ : L} {v : Value} {x : V} {c : List T} (h : RelV Λ v x) (hc : x.cellsT = some c) : RelC Λ v.cells (c.map V.t) := by
  have one : ∀ {v : Value} {y : T}, v.cells = #[v] → RepT Λ.lab Λ.w v y → RelC Λ v.cells [V.t y] := by
    intro v y hv hy
    rw [hv]
    refine ⟨rfl, fun j u d hu hd => ?_⟩
    cases j with
    | zero => simp at hu hd; subst hu; subst hd; exact .t hy
    | succ j => simp at hd
  have hone : ∀ {v : Value} {y : T}, RepT Λ.lab Λ.w v y → v.cells = #[v] := by intro v y hy; cases hy <;> rfl
  have gen : ∀ {y : T}, x.cell1 = some y → c = [y] → RelC Λ v.cells (c.map V.t) := by
    intro y h1 h2
    subst h2
    have := h.cell1 h1
    exact one (hone this) this
  cases h with
  | agg hs h =>
    simp only [V.cellsT] at hc
    rename_i vs cs
    have key : ∀ (cs : List V) (c : List T), cs.mapM V.cell1 = some c → cs.length = c.length ∧ ∀ (j : Nat) (d : V) (y : T), cs[j]? = some d → c[j]? = some y → d.cell1 = some y := by
      intro cs
      induction cs with
      | nil => intro c h; simp at h; subst h; simp
      | cons d cs ih =>
        intro c h
        simp only [List.mapM_cons, Option.bind_eq_bind, Option.pure_def, Option.bind_eq_some_iff] at h
        obtain ⟨y, hy, c', hc', h⟩ := h
        simp at h; subst h
        obtain ⟨i1, i2⟩ := ih c' hc'
        refine ⟨by simp [i1], fun j e z h1 h2 => ?_⟩
        cases j with
        | zero => simp at h1 h2; subst h1; subst h2; exact hy
        | succ j => exact i2 j e z (by simpa using h1) (by simpa using h2)
    obtain ⟨k1, k2⟩ := key cs c hc
    refine ⟨by simp [Value.cells, hs, k1], fun j u d hu hd => ?_⟩
    rw [List.getElem?_map, Option.map_eq_some_iff] at hd
    obtain ⟨y, hy, rfl⟩ := hd
    have hlt : j < cs.length := by rw [k1]; exact (List.getElem?_eq_some_iff.1 hy).1
    have := h j u cs[j] hu (by simp [hlt])
    exact .t (this.cell1 (k2 j _ y (by simp [hlt]) hy))
  | t h => simp [V.cellsT, V.cell1] at hc; exact gen rfl hc.symm
  | nils => simp [V.cellsT, V.cell1] at hc; exact gen rfl hc.symm
  | own h a b c' d => simp [V.cellsT, V.cell1] at hc; exact gen rfl hc.symm
  | slc a c h => simp [V.cellsT, V.cell1] at hc
  | tup _ _ => simp [V.cellsT, V.cell1] at hc
  | ptr a h => simp [V.cellsT, V.cell1] at hc
  | mp a h => simp [V.cellsT, V.cell1] at hc
  | fn hs h => simp [V.cellsT, V.cell1] at hc
  | gd _ _ => simp [V.cellsT, V.cell1] at hc
  | top => simp [V.cellsT, V.cell1] at hc
  | ub _ _ => simp [V.cellsT, V.cell1] at hc

theorem pure_fill {C : Ctx} {Λ : L} {ac : Act} (h : Rel C Λ st ac) (sz : Nat) : ∀ (parts : List (Nat × Operand)) (ps : List (Nat × Ar)) (arr : Array Value) (zs xs : List (List T)),
    slotsOf parts = some ps → RelC Λ arr (zs.flatten.map V.t) → (∀ (i : Nat) (c : List T), zs[i]? = some c → c.length = sz) → pureParts st sz zs ps = some xs →
    ∃ arr', Instr.fill (fun i => some (i * sz, sz)) arr (parts.map fun (i, x) => (i, ac.eval x)) = some arr' ∧ RelC Λ arr' (xs.flatten.map V.t) ∧ (∀ (i : Nat) (c : List T), xs[i]? = some c → c.length = sz) ∧ xs.length = zs.length
  | [], ps, arr, zs, xs, hps, hr, hs, hf => by
    simp [slotsOf] at hps; subst hps; simp [pureParts] at hf; subst hf
    exact ⟨arr, rfl, hr, hs, rfl⟩
  | (i, x) :: parts, ps, arr, zs, xs, hps, hr, hs, hf => by
    simp only [slotsOf] at hps
    split at hps
    · rename_i a l h1 h2
      simp at hps; subst hps
      simp only [pureParts] at hf
      split at hf
      · rename_i c hc
        split at hf
        · rename_i hcond
          have hrc := cellsT_relC (h.opu h1) hc
          have hfold := RelC.foldl (i * sz) (ac.eval x).cells.toList (c.map V.t) 0 arr (zs.flatten.map V.t) (by simpa using hrc.1) (fun j a b e1 e2 => hrc.2 j a b (by simpa using e1) e2) hr
          rw [Nat.add_zero, setAt_flat zs i c hs hcond.1 hcond.2] at hfold
          have hs' : ∀ (j : Nat) (d : List T), (zs.set i c)[j]? = some d → d.length = sz := by
            intro j d hj
            by_cases e : i = j
            · subst e; rw [List.getElem?_set_self hcond.2] at hj; simp at hj; subst hj; exact hcond.1
            · rw [List.getElem?_set_ne e] at hj; exact hs j d hj
          obtain ⟨arr', e1, e2, e3, e4⟩ := pure_fill h sz parts l _ _ xs h2 hfold hs' hf
          refine ⟨arr', ?_, e2, e3, by simpa using e4⟩
          have hsz : (ac.eval x).cells.size = sz := by rw [hrc.1]; simpa using hcond.1
          have hsz2 : arr.size = zs.length * sz := by rw [hr.1, List.length_map, flat_len zs hs]
          have hin : i * sz + sz ≤ zs.length * sz := by rw [← Nat.succ_mul]; exact Nat.mul_le_mul_right _ hcond.2
          simp only [List.map_cons, Instr.fill, hsz]
          have : ¬ (i * sz + sz > arr.size) := by omega
          simp only [ne_eq, not_true_eq_false, decide_false, this, Bool.or_self, Bool.false_eq_true, if_false]
          rw [← e1]
          congr 1
          rw [← Array.foldl_toList, Array.toList_zipIdx]
        · simp at hf
      · simp at hf
    · simp at hps

theorem made_relC {Λ : L} {zc : Array Value} {cs : List V} (h : RelC Λ zc cs) (n : Nat) : RelC Λ ((Array.range (n * zc.size)).map (zc[· % zc.size]!)) (List.replicate n cs).flatten := by
  have hall : ∀ (i : Nat) (c : List V), (List.replicate n cs)[i]? = some c → c.length = zc.size := by
    intro i c hc
    have := List.mem_of_getElem? hc
    rw [List.mem_replicate] at this
    rw [this.2, h.1]
  have hlen := flat_len _ hall
  simp only [List.length_replicate] at hlen
  refine ⟨by simp [hlen], fun j v c hv hc => ?_⟩
  have hj : j < n * zc.size := by have := (List.getElem?_eq_some_iff.1 hc).1; omega
  have h0 : 0 < zc.size := by rcases Nat.eq_zero_or_pos zc.size with h | h; · rw [h] at hj; omega
                              · exact h
  have d1 : j / zc.size < n := Nat.div_lt_of_lt_mul (by rwa [Nat.mul_comm] at hj)
  have d2 : j % zc.size < zc.size := Nat.mod_lt _ h0
  have d3 : j / zc.size * zc.size + j % zc.size = j := by rw [Nat.mul_comm]; exact Nat.div_add_mod j zc.size
  have hcl : j % zc.size < cs.length := by rw [← h.1]; exact d2
  have := flat_get _ hall (j / zc.size) (j % zc.size) cs cs[j % zc.size] (by simp [d1]) (by simp [hcl])
  rw [d3, hc] at this
  simp at this; subst this
  have hv' : v = zc[j % zc.size] := by
    rw [Array.getElem?_map, Array.getElem?_range] at hv
    simp [hj] at hv
    rw [← hv]
    simp [d2]
  subst hv'
  exact h.2 (j % zc.size) _ _ (Array.getElem?_eq_getElem d2) (List.getElem?_eq_getElem hcl)

theorem mapM_cell1 : ∀ (cs : List V) (c : List T), cs.mapM V.cell1 = some c → cs.length = c.length ∧ ∀ (j : Nat) (d : V) (y : T), cs[j]? = some d → c[j]? = some y → d.cell1 = some y := by
  intro cs
  induction cs with
  | nil => intro c h; simp at h; subst h; simp
  | cons d cs ih =>
    intro c h
    simp only [List.mapM_cons, Option.bind_eq_bind, Option.pure_def, Option.bind_eq_some_iff] at h
    obtain ⟨y, hy, c', hc', h⟩ := h
    simp at h; subst h
    obtain ⟨i1, i2⟩ := ih c' hc'
    refine ⟨by simp [i1], fun j e z h1 h2 => ?_⟩
    cases j with
    | zero => simp at h1 h2; subst h1; subst h2; exact hy
    | succ j => exact i2 j e z (by simpa using h1) (by simpa using h2)

theorem relC_pure {Λ : L} {arr : Array Value} {cs : List V} {c : List T} (h : RelC Λ arr cs) (hc : cs.mapM V.cell1 = some c) : RelC Λ arr (c.map V.t) := by
  obtain ⟨k1, k2⟩ := mapM_cell1 cs c hc
  refine ⟨by simp [h.1, k1], fun j u d hu hd => ?_⟩
  rw [List.getElem?_map, Option.map_eq_some_iff] at hd
  obtain ⟨y, hy, rfl⟩ := hd
  have hlt : j < cs.length := by rw [k1]; exact (List.getElem?_eq_some_iff.1 hy).1
  exact .t ((h.2 j u cs[j] hu (by simp [hlt])).cell1 (k2 j _ y (by simp [hlt]) hy))

theorem run_buildSlice {t e : TypeId} {i : TypeInfo} {z : Value} {n : Nat} {parts : Array (Nat × Operand)} {a : Act} {w : World} {arr : Array Value} (ho : o.op = .buildSlice t n parts) (ht : P.underlying t = some (.slice e)) (hi : P.info? e = some i) (hz : i.zero = some z) (hzs : z.cells.size = i.size)
    (hle : n * i.size ≤ 16777216) (hf : Instr.fill (fun j => some (j * i.size, i.size)) ((Array.range (n * z.cells.size)).map (z.cells[· % z.cells.size]!)) (parts.toList.map fun (j, x) => (j, a.eval x)) = some arr) :
    (execOp a.eval o).run P w = .ok (.value (.slice (some ⟨w.heap.size, 0, none⟩) n n)) (w.alloc (.cells arr e)) := by
  simp only [execOp, ho]
  have hle' : ¬ (16777216 < n * i.size) := by omega
  rw [hzs] at hf
  by_cases h0 : n * i.size = 0
  · rw [h0] at hf
    have hf' : Instr.fill (fun j => some (j * i.size, i.size)) ((Array.range 0).map ((#[] : Array Value)[· % (#[] : Array Value).size]!)) (parts.toList.map fun (j, x) => (j, a.eval x)) = some arr := by
      rw [← hf]; congr 1; simp [Array.range_zero']
    simp [Instr.buildSlice, run_underlying ht, sizeOf, typeInfo, hi, h0, newRow]
    have hf2 := hf'
    simp at hf2
    simp [hf2]
  · simp [Instr.buildSlice, run_underlying ht, sizeOf, typeInfo, zeroValue, hi, hz, h0, hle', newRow]
    rw [← hzs] at hf
    rw [hzs] at hf
    simp [hf, hzs]

/-- what is known of a slice literal -/
structure BslOp (P : Program) (o : Oper) (sz : Nat) (zs : List (List T)) (ps : List (Nat × Ar)) where
  t : TypeId
  e : TypeId
  n : Nat
  parts : Array (Nat × Operand)
  zv : List V
  z : List T
  ho : o.op = .buildSlice t n parts
  ht : P.underlying t = some (.slice e)
  hs : szOf P e = some sz
  hzv : zerosOf P e = some zv
  hz : zv.mapM V.cell1 = some z
  hle : n * sz ≤ 16777216
  hzs : zs = List.replicate n z
  hps : slotsOf parts.toList = some ps

theorem bsl_run {sz : Nat} {zs xs : List (List T)} {ps : List (Nat × Ar)} (B : BslOp P o sz zs ps) {C : Ctx} {Λ : L} {a : Act} (hr : Rel C Λ st a) (hx : pureParts st sz zs ps = some xs) :
    ∃ arr, (execOp a.eval o).run P Λ.w = .ok (.value (.slice (some ⟨Λ.w.heap.size, 0, none⟩) xs.length xs.length)) (Λ.w.alloc (.cells arr B.e)) ∧ RelC Λ arr (xs.flatten.map V.t) ∧ (∀ (i : Nat) (c : List T), xs[i]? = some c → c.length = sz) := by
  obtain ⟨i, zval, hi, hz1, hlen, hok⟩ := zerosOf_spec B.hzv
  have hsz : i.size = sz := by have := B.hs; unfold szOf at this; rw [hi] at this; simpa using this
  have hrc := relC_pure (zeros_relC (Λ := Λ) hok) B.hz
  have hzl : zval.cells.size = sz := by rw [(zeros_relC (Λ := Λ) hok).1, hlen]; exact hsz
  have hmade := made_relC hrc B.n
  have hfl : (List.replicate B.n (B.z.map V.t)).flatten = (zs.flatten.map V.t) := by have e := B.hzs; generalize B.n = n at *; generalize B.z = z at *; subst e; simp
  rw [hfl] at hmade
  have hzall : ∀ (i : Nat) (c : List T), zs[i]? = some c → c.length = sz := by
    intro j c hc
    rw [B.hzs] at hc
    have := List.mem_of_getElem? hc
    rw [List.mem_replicate] at this
    rw [this.2]
    have := hrc.1
    simp at this; omega
  obtain ⟨arr, e1, e2, e3, e4⟩ := pure_fill hr sz _ _ _ _ _ B.hps hmade hzall hx
  have hn : xs.length = B.n := by have e := congrArg List.length B.hzs; simp at e; omega
  refine ⟨arr, ?_, e2, e3⟩
  rw [hn]
  exact run_buildSlice B.ho B.ht hi hz1 (by rw [hzl, hsz]) (by rw [hsz]; exact B.hle) (by rw [hsz]; exact e1)

theorem o_bsl {sz : Nat} {zs xs : List (List T)} {ps : List (Nat × Ar)} (B : BslOp P o sz zs ps) (hx : pureParts st sz zs ps = some xs) : OSound P o base st { v := .t (.lst xs) } := by
  intro C Λ a next Q hC hr hle hfree hnext
  obtain ⟨arr, h1, h2, h3⟩ := bsl_run B hr hx
  unfold Oper.wp
  rw [h1]
  have g := Grew.alloc Λ.w (.cells arr B.e)
  have hkp := Kp.new g hr.s.new (.fix none)
  have hlab : ∀ b, relab Λ.lab Λ.w.heap.size (.fix none) b = Λ.lab b := by
    intro b
    by_cases e : b = Λ.w.heap.size
    · subst e; rw [relab_same]; exact (hr.s.new _ (Nat.le_refl _)).symm
    · exact relab_ne e
  have hfun : relab Λ.lab Λ.w.heap.size (.fix none) = Λ.lab := funext hlab
  rw [hfun] at hkp
  refine hnext _ { Λ with w := Λ.w.alloc (.cells arr B.e) } hkp rfl ?_ ?_ (fun k hk _ _ => ⟨hk.obj, hk.arr, hk.fro⟩)
  · refine hr.s.step hkp rfl (fun k ob hk => .inl ⟨hk, fun b hb => g.old ?_, rfl⟩) hr.s.inj (fun b hb => hr.s.new b (by have := g.size; simp only at hb; omega)) hr.s.bnd hr.s.frz
    rcases Nat.lt_or_ge b Λ.w.heap.size with h' | h'
    · exact h'
    · rw [hr.s.new b h'] at hb; simp at hb
  · refine .t (rep_block (sz := sz) (vs := arr.toList) g.top (Nat.le_refl _) rfl h3 (fun o _ => by simp [Rd, hr.s.new _ (Nat.le_refl _)]) (fun j v hj => by simpa using hj) (by rw [Array.length_toList, h2.1, List.length_map, flat_len xs h3]) fun j v x e1 e2 => ?_)
    exact (h2.2 j v (.t x) (by simpa using e1) (by simp only [List.getElem?_map, e2]; rfl)).repT.mono hkp.fr

theorem o_bsl_nil {sz : Nat} {zs xs : List (List T)} {ps : List (Nat × Ar)} (B : BslOp P o sz zs ps) (hx : pureParts st sz zs ps = some xs) (he : xs = []) : OSound P o base st { v := .nils } := by
  intro C Λ a next Q hC hr hle hfree hnext
  obtain ⟨arr, h1, h2, h3⟩ := bsl_run B hr hx
  subst he
  unfold Oper.wp
  rw [h1]
  have g := Grew.alloc Λ.w (.cells arr B.e)
  have hkp := Kp.new g hr.s.new (.fix none)
  have hlab : ∀ b, relab Λ.lab Λ.w.heap.size (.fix none) b = Λ.lab b := by
    intro b
    by_cases e : b = Λ.w.heap.size
    · subst e; rw [relab_same]; exact (hr.s.new _ (Nat.le_refl _)).symm
    · exact relab_ne e
  have hfun : relab Λ.lab Λ.w.heap.size (.fix none) = Λ.lab := funext hlab
  rw [hfun] at hkp
  refine hnext _ { Λ with w := Λ.w.alloc (.cells arr B.e) } hkp rfl ?_ ?_ (fun k hk _ _ => ⟨hk.obj, hk.arr, hk.fro⟩)
  · refine hr.s.step hkp rfl (fun k ob hk => .inl ⟨hk, fun b hb => g.old ?_, rfl⟩) hr.s.inj (fun b hb => hr.s.new b (by have := g.size; simp only at hb; omega)) hr.s.bnd hr.s.frz
    rcases Nat.lt_or_ge b Λ.w.heap.size with h' | h'
    · exact h'
    · rw [hr.s.new b h'] at hb; simp at hb
  · exact .nils

theorem o_bsl_own {sz : Nat} {zs xs : List (List T)} {ps : List (Nat × Ar)} (B : BslOp P o sz zs ps) (hx : pureParts st sz zs ps = some xs) : OSound P o base st { v := .own base sz xs, ob := [(base, .arr xs.length)], n := 1 } := by
  intro C Λ a next Q hC hr hle hfree hnext
  obtain ⟨arr, h1, h2, h3⟩ := bsl_run B hr hx
  unfold Oper.wp
  rw [h1]
  obtain ⟨hb1, hb2, hb3⟩ := hfree base (Nat.le_refl _) (by simp)
  have g := Grew.alloc Λ.w (.cells arr B.e)
  have hk1 : Kp Λ { Λ with fro := refro Λ.fro base xs.length } := Kp.refro (by rw [hb2.fro]; omega)
  obtain ⟨k1, k2, k3⟩ := new_arr (fr := xs.length * sz) hr.s hk1 rfl rfl rfl (fun _ => .inl rfl) g hb1 rfl
  have hal : arr.size = xs.length * sz := by rw [h2.1, List.length_map, flat_len xs h3]
  refine hnext _ _ k1 rfl k2 (.own ?_ h3 hb1 (by simp [refro]) (fun _ => .inr ⟨Λ.w.heap.size, xs.length, arr, B.e, rfl, by simp [relab], g.top, hal, Nat.le_refl _⟩)) (fun k hk _ hlt => k3 k hk (by simp at hlt; omega))
  refine rep_block (sz := sz) (vs := arr.toList) g.top (Nat.le_refl _) rfl h3 (fun o ho => by simp [Rd, relab]; exact ho) (fun j v hj => by simpa using hj) (by rw [Array.length_toList, hal]) fun j v x e1 e2 => ?_
  exact (h2.2 j v (.t x) (by simpa using e1) (by simp only [List.getElem?_map, e2]; rfl)).repT.mono k1.fr

theorem o_mksl {t e : TypeId} {l : Nat} {i : TypeInfo} {zs : List V} {k : IntKind} {m : Int} (ho : o.op = .makeSlice t (.tmp l) (.tmp l)) (ht : P.underlying t = some (.slice e)) (hi : P.info? e = some i) (hz : zerosOf P e = some zs)
    (hm : (look st.env l).ug = .t (.int k m)) (h0 : 0 ≤ m) (hb : m * i.bytes ≤ 281474976710656) (h63 : m ≤ 9223372036854775807) :
    OSound P o base st { v := .slc base 0 m.toNat i.size, ob := [(base, .cells (List.replicate m.toNat zs).flatten)], n := 1 } := by
  intro C Λ a next Q hC hr hle hfree hnext
  obtain ⟨i', z, hi', hz1, hlen, hok⟩ := zerosOf_spec hz
  rw [hi] at hi'; simp at hi'; subst hi'
  have hl := (hr.env l).ug
  rw [hm] at hl
  have el : a.eval (.tmp l) = .int k m := hl.repT.int_inv
  have hrc := zeros_relC (Λ := Λ) hok
  have hzl : z.cells.size = i.size := by rw [hrc.1, hlen]
  have hrun : (execOp a.eval o).run P Λ.w = .ok (.value (.slice (some ⟨Λ.w.heap.size, 0, none⟩) m.toNat m.toNat)) (Λ.w.alloc (.cells (madeCells z.cells (m.toNat * i.size)) e)) := by
    simp only [execOp, ho, el]
    simp [run_make (P := P) Λ.w t e i z ht hi hz1 k k m m h0 (Int.le_refl _) (by rw [Int.mul_comm]; exact hb) h63]
  unfold Oper.wp
  rw [hrun]
  obtain ⟨hb1, hb2, hb3⟩ := hfree base (Nat.le_refl _) (by simp)
  have g := Grew.alloc Λ.w (.cells (madeCells z.cells (m.toNat * i.size)) e)
  have hkp := Kp.new g hr.s.new (.obj base)
  have hmade := made_relC hrc m.toNat
  rw [hzl] at hmade
  have hmm : RelC Λ (madeCells z.cells (m.toNat * i.size)) (List.replicate m.toNat zs).flatten := by
    unfold madeCells; rw [hzl]; exact hmade
  obtain ⟨k1, k2, k3⟩ := new_obj hr.s g hb1 hb2 rfl (ao := .cells (List.replicate m.toNat zs).flatten) ⟨Λ.w.heap.size, _, _, by simp [relab_same], g.top, hmm.1, fun j v c e1 e2 => (hmm.2 j v c e1 e2).mono hkp⟩
  exact hnext _ _ k1 rfl k2 (.slc hb1 (Nat.le_refl _) (by simp [relab_same])) (fun k hk _ hlt => k3 k hk (by simp at hlt; omega))

end
end Go.GB


/-
  GbMp: maps, comparisons of structs and with nil: what the evaluation says is what the model does.
-/
namespace Go.GB

/-- the value of a plain cell -/
def Tv : T → Value
  | .bool b => .bool b
  | .int k n => .int k n
  | .str s => .string ⟨⟨s⟩⟩
  | _ => undef
/-- the value of a key -/
def kv (kag : Bool) (cs : List T) : Value := if kag then .agg (cs.map Tv).toArray else match cs with | [x] => Tv x | _ => undef

theorem RepT.plain {l : Nat → Lab} {w : World} {v : Value} {x : T} {s : KSh} (h : RepT l w v x) (hk : s.ok x = true) : v = Tv x := by
  cases h <;> first | rfl | (cases s <;> simp [KSh.ok] at hk)

theorem keyOk_at : ∀ {ks : List KSh} {cs : List T}, keyOk ks cs = true → ks.length = cs.length ∧ ∀ (j : Nat) (s : KSh) (x : T), ks[j]? = some s → cs[j]? = some x → s.ok x = true
  | [], [], _ => ⟨rfl, by simp⟩
  | [], _ :: _, h => by simp [keyOk] at h
  | _ :: _, [], h => by simp [keyOk] at h
  | s :: r, x :: c, h => by
    simp only [keyOk, Bool.and_eq_true] at h
    obtain ⟨h1, h2⟩ := keyOk_at h.2
    refine ⟨by simp [h1], fun j t y a b => ?_⟩
    cases j with
    | zero => simp at a b; subst a; subst b; exact h.1
    | succ j => exact h2 j t y (by simpa using a) (by simpa using b)

theorem RepA.plain {l : Nat → Lab} {w : World} {kag : Bool} {v : Value} {cs : List T} {ks : List KSh} (h : RepA l w kag v cs) (hk : keyOk ks cs = true) : v = kv kag cs := by
  obtain ⟨h1, h2⟩ := keyOk_at hk
  unfold RepA at h
  cases kag with
  | true =>
    obtain ⟨vs, rfl, hs, hv⟩ := h
    simp only [kv, if_true]
    congr 1
    apply Array.ext
    · simp [hs]
    · intro j a b
      have hjc : j < cs.length := by rw [← hs]; exact a
      have hjk : j < ks.length := by omega
      have := (hv j vs[j] cs[j] (by simp [a]) (by simp [hjc])).plain (h2 j ks[j] cs[j] (by simp [hjk]) (by simp [hjc]))
      simpa using this
  | false =>
    obtain ⟨x, rfl, hv⟩ := h
    have hkl : ks.length = 1 := by simpa using h1
    have := hv.plain (h2 0 (ks[0]'(by omega)) x (by simp) rfl)
    simpa [kv] using this

/-- what is known of a key's type -/
structure KeyT (P : Program) (kt : TypeId) (ks : List KSh) (kag : Bool) : Prop where
  sh : keySh P kt = some (ks, kag)

section
variable {P : Program}

theorem part_plain {t : TypeId} {d : TypeDesc} (hu : P.underlying t = some d) (hd : d = .bool ∨ (∃ k, d = .int k) ∨ d = .string) {vs : Array Value} {off : Nat} {v : Value} (hv : vs[off]? = some v) (w : World) : (part t vs off).run P w = .ok v w := by
  refine part_one hu ?_ hv w
  unfold isAggT
  rw [hu]
  rcases hd with rfl | ⟨k, rfl⟩ | rfl <;> rfl

theorem eqFields_run (d : Nat) : ∀ (fs : List Field) (ks : List KSh) (i : Nat) (cs ds : List T) (xs ys : Array Value) (w : World), fieldsSh P i fs = some ks → keyOk ks cs = true → keyOk ks ds = true →
    (∀ (j : Nat) (x : T), cs[j]? = some x → xs[i + j]? = some (Tv x)) → (∀ (j : Nat) (x : T), ds[j]? = some x → ys[i + j]? = some (Tv x)) → (Op.eqFields (d + 1) xs ys fs).run P w = .ok (keyEq cs ds) w
  | [], ks, i, cs, ds, xs, ys, w, hf, hc, hd, _, _ => by
    simp [fieldsSh] at hf; subst hf
    cases cs <;> simp [keyOk] at hc
    cases ds <;> simp [keyOk] at hd
    simp [Op.eqFields, keyEq]
  | f :: r, ks, i, cs, ds, xs, ys, w, hf, hc, hd, hx, hy => by
    simp only [fieldsSh] at hf
    split at hf
    · rename_i hfo
      obtain ⟨ho, hn⟩ := hfo
      have main : ∀ (s : KSh) (l : List KSh), fieldsSh P (i + 1) r = some l → ks = s :: l →
          (∀ (x y : T), s.ok x = true → s.ok y = true → (∀ w, (part f.type xs f.offset).run P w = .ok (Tv x) w → (part f.type ys f.offset).run P w = .ok (Tv y) w → True) ∧ ∀ w, (Op.equalIn (d + 1) f.type (Tv x) (Tv y)).run P w = .ok (x.eqb y) w) →
          (∀ (vs : Array Value) (v : Value) (w : World), vs[f.offset]? = some v → (part f.type vs f.offset).run P w = .ok v w) →
          (Op.eqFields (d + 1) xs ys (f :: r)).run P w = .ok (keyEq cs ds) w := by
        intro s l hl hks heq hpart
        subst hks
        cases cs with
        | nil => simp [keyOk] at hc
        | cons x cs =>
          cases ds with
          | nil => simp [keyOk] at hd
          | cons y ds =>
            simp only [keyOk, Bool.and_eq_true] at hc hd
            have hx0 := hx 0 x rfl
            have hy0 := hy 0 y rfl
            simp only [Nat.add_zero] at hx0 hy0
            have e1 := hpart xs (Tv x) w (by rw [ho]; exact hx0)
            have e2 := hpart ys (Tv y) w (by rw [ho]; exact hy0)
            have e3 := (heq x y hc.1 hd.1).2 w
            have ih := eqFields_run d r l (i + 1) cs ds xs ys w hl hc.2 hd.2 (fun j z hj => by have := hx (j + 1) z (by simpa using hj); rw [← this]; congr 1; omega) (fun j z hj => by have := hy (j + 1) z (by simpa using hj); rw [← this]; congr 1; omega)
            simp only [Op.eqFields, hn, ne_eq, not_false_eq_true, if_true, Sem.run_bind, e1, e2, e3, Result.andThen_ok, keyEq]
            cases x.eqb y with
            | true => simpa using ih
            | false => simp
      split at hf
      · rename_i l hu hl
        simp at hf
        exact main .bool l hl hf.symm (fun x y hxo hyo => ⟨fun _ _ _ => trivial, fun w => by
          cases x <;> simp [KSh.ok] at hxo
          cases y <;> simp [KSh.ok] at hyo
          simp only [Tv, T.eqb]
          exact run_equalIn_bool w d f.type _ _ hu⟩) (fun vs v w hv => part_plain hu (.inl rfl) hv w)
      · rename_i k l hu hl
        simp at hf
        exact main (.int k) l hl hf.symm (fun x y hxo hyo => ⟨fun _ _ _ => trivial, fun w => by
          cases x <;> simp [KSh.ok] at hxo
          cases y <;> simp [KSh.ok] at hyo
          subst hxo; subst hyo
          simp only [Tv, T.eqb]
          exact run_equalIn_int w d f.type _ _ _ _ hu⟩) (fun vs v w hv => part_plain hu (.inr (.inl ⟨k, rfl⟩)) hv w)
      · rename_i l hu hl
        simp at hf
        exact main .str l hl hf.symm (fun x y hxo hyo => ⟨fun _ _ _ => trivial, fun w => by
          cases x <;> simp [KSh.ok] at hxo
          cases y <;> simp [KSh.ok] at hyo
          simp only [Tv, T.eqb]
          rw [run_equalIn_string w d f.type _ _ hu, toList_mk, toList_mk]⟩) (fun vs v w hv => part_plain hu (.inr (.inr rfl)) hv w)
      · cases hf
    · cases hf

theorem kv_at (cs : List T) (j : Nat) (x : T) (h : cs[j]? = some x) : ((cs.map Tv).toArray)[0 + j]? = some (Tv x) := by
  simp [h]

/-- two structs of plain cells -/
theorem equal_struct {kt : TypeId} {ks : List KSh} (hk : KeyT P kt ks true) {cs ds : List T} (hc : keyOk ks cs = true) (hd : keyOk ks ds = true) (d : Nat) (w : World) : (Op.equalIn (d + 2) kt (kv true cs) (kv true ds)).run P w = .ok (keyEq cs ds) w := by
  have h := hk.sh
  unfold keySh at h
  split at h <;> try (simp at h; done)
  rename_i fs hu
  split at h
  · rename_i hst
    simp only [Option.map_eq_some_iff, Prod.mk.injEq, and_true] at h
    obtain ⟨l, hl, rfl⟩ := h
    have hfo : P.fieldsOf kt = fs := by simp [Program.fieldsOf, hu]
    have ht : P.underlying kt = some (.struct (P.fieldsOf kt)) := by rw [hfo]; exact hu
    simp only [kv, if_true]
    rw [run_equalIn_struct w (d + 1) kt _ _ ht hst.1, hfo]
    exact eqFields_run d fs.toList l 0 cs ds _ _ w hl hc hd (kv_at cs) (kv_at ds)
  · cases h

theorem findAsking_run {kt : TypeId} {k : Value} {w : World} {cs : List T} : ∀ (l : List MapEntry) (es : List (List T × V)) (i : Nat), l.length = es.length →
    (∀ (j : Nat) (e : MapEntry) (x : List T × V), l[j]? = some e → es[j]? = some x → (Op.equal kt k e.key).run P w = .ok (keyEq cs x.1) w) →
    (Instr.findAsking kt k l i).run P w = .ok (match mfind cs es with | some j => (l[j]?).map fun e => (i + j, e.val) | none => none) w
  | [], [], i, _, _ => by simp [Instr.findAsking, mfind]
  | [], _ :: _, i, h, _ => by simp at h
  | _ :: _, [], i, h, _ => by simp at h
  | e :: l, x :: es, i, h, hq => by
    have h0 := hq 0 e x rfl rfl
    have ih := findAsking_run (w := w) l es (i + 1) (by simpa using h) (fun j e x a b => hq (j + 1) e x (by simpa using a) (by simpa using b))
    simp only [Instr.findAsking, Sem.run_bind, h0, Result.andThen_ok, mfind]
    cases hc : keyEq cs x.1 with
    | true => simp
    | false =>
      simp only [Bool.false_eq_true, if_false, ih]
      cases mfind cs es with
      | none => simp
      | some j => simp [Nat.add_assoc, Nat.add_comm 1 j]

theorem findNow_run {k : Value} {kd : TypeDesc} {cs : List T} : ∀ (l : List MapEntry) (es : List (List T × V)) (i : Nat), l.length = es.length →
    (∀ (j : Nat) (e : MapEntry) (x : List T × V), l[j]? = some e → es[j]? = some x → Instr.sameNow kd k e.key = some (keyEq cs x.1)) →
    Instr.findNow kd k l i = some (match mfind cs es with | some j => (l[j]?).map fun e => (i + j, e.val) | none => none)
  | [], [], i, _, _ => by simp [Instr.findNow, mfind]
  | [], _ :: _, i, h, _ => by simp at h
  | _ :: _, [], i, h, _ => by simp at h
  | e :: l, x :: es, i, h, hq => by
    have h0 := hq 0 e x rfl rfl
    have ih := findNow_run l es (i + 1) (by simpa using h) (fun j e x a b => hq (j + 1) e x (by simpa using a) (by simpa using b))
    simp only [Instr.findNow, h0, mfind]
    cases hc : keyEq cs x.1 with
    | true => simp
    | false =>
      simp only [Bool.false_eq_true, if_false, ih]
      cases mfind cs es with
      | none => simp
      | some j => simp [Nat.add_assoc, Nat.add_comm 1 j]

theorem beq_mk (a b : List UInt8) : ((⟨⟨a⟩⟩ : ByteArray) == ⟨⟨b⟩⟩) = (a == b) := by
  rw [beq_toListBytes, toList_mk, toList_mk]

theorem sameNow_plain {kt : TypeId} {s : KSh} (hk : KeyT P kt [s] false) {x y : T} (hx : s.ok x = true) (hy : s.ok y = true) : ∃ d, P.underlying kt = some d ∧ Instr.sameNow d (Tv x) (Tv y) = some (x.eqb y) ∧ MapKept.IsKey d (Tv x) := by
  have h := hk.sh
  unfold keySh at h
  split at h <;> try (simp at h; done)
  · rename_i hu
    simp at h; subst h
    cases x <;> simp [KSh.ok] at hx
    cases y <;> simp [KSh.ok] at hy
    exact ⟨_, hu, rfl, by simp [MapKept.IsKey, Tv]⟩
  · rename_i k hu
    simp at h; subst h
    cases x <;> simp [KSh.ok] at hx
    cases y <;> simp [KSh.ok] at hy
    subst hx; subst hy
    exact ⟨_, hu, by simp [Instr.sameNow, Tv, T.eqb], by simp [MapKept.IsKey, Tv]⟩
  · rename_i hu
    simp at h; subst h
    cases x <;> simp [KSh.ok] at hx
    cases y <;> simp [KSh.ok] at hy
    exact ⟨_, hu, by simp [Instr.sameNow, Tv, T.eqb, beq_mk], by simp [MapKept.IsKey, Tv]⟩

theorem key_val {Λ : L} {u : Value} {x : V} {ks : List KSh} {kag : Bool} {cs : List T} (h : RelV Λ u x) (hk : keyC ks kag x = some cs) : u = kv kag cs ∧ keyOk ks cs = true := by
  unfold keyC at hk
  split at hk
  · rename_i c hc
    split at hk
    · rename_i hb
      simp only [Bool.and_eq_true, beq_iff_eq] at hb
      simp at hk; subst hk
      refine ⟨?_, hb.1⟩
      have hrc := cellsT_relC h hc
      refine RepA.plain (l := Λ.lab) (w := Λ.w) ?_ hb.1
      obtain ⟨h1, h2⟩ := keyOk_at hb.1
      unfold RepA
      cases h with
      | agg hs hv =>
        have : kag = true := by simpa [V.isAgg] using hb.2.symm
        subst this
        refine ⟨_, rfl, by simpa [Value.cells] using hrc.1, fun j u y hj hy => ?_⟩
        have := hrc.2 j u (.t y) (by simpa [Value.cells] using hj) (by simp [hy])
        exact this.repT
      | t hx =>
        have : kag = false := by simpa [V.isAgg] using hb.2.symm
        subst this
        simp [V.cellsT, V.cell1] at hc; subst hc
        exact ⟨_, rfl, hx⟩
      | nils =>
        simp [V.cellsT, V.cell1] at hc; subst hc
        cases ks with
        | nil => simp [keyOk] at hb
        | cons s r => cases s <;> simp [keyOk, KSh.ok] at hb
      | own a b c d e =>
        simp [V.cellsT, V.cell1] at hc; subst hc
        cases ks with
        | nil => simp [keyOk] at hb
        | cons s r => cases s <;> simp [keyOk, KSh.ok] at hb
      | slc _ _ _ => simp [V.cellsT, V.cell1] at hc
      | tup _ _ => simp [V.cellsT, V.cell1] at hc
      | ptr _ _ => simp [V.cellsT, V.cell1] at hc
      | mp _ _ => simp [V.cellsT, V.cell1] at hc
      | fn _ _ => simp [V.cellsT, V.cell1] at hc
      | gd _ _ => simp [V.cellsT, V.cell1] at hc
      | top => simp [V.cellsT, V.cell1] at hc
      | ub _ _ => simp [V.cellsT, V.cell1] at hc
    · cases hk
  · cases hk

theorem keyT_one {kt : TypeId} {ks : List KSh} (hk : KeyT P kt ks false) : ∃ s, ks = [s] := by
  have h := hk.sh
  unfold keySh at h
  split at h
  · simp at h; exact ⟨_, h.symm⟩
  · simp at h; exact ⟨_, h.symm⟩
  · simp at h; exact ⟨_, h.symm⟩
  · split at h <;> simp at h
  · cases h

theorem keyOk_one {s : KSh} {cs : List T} (h : keyOk [s] cs = true) : ∃ x, cs = [x] ∧ s.ok x = true := by
  match cs, h with
  | [x], h => exact ⟨x, rfl, by simpa [keyOk] using h⟩
  | _ :: _ :: _, h => simp [keyOk] at h

theorem find_run {kt : TypeId} {ks : List KSh} {kag : Bool} (hK : KeyT P kt ks kag) {cs : List T} (hc : keyOk ks cs = true) {ents : Array MapEntry} {es : List (List T × V)} (hsz : ents.size = es.length)
    (hkeys : ∀ (i : Nat) (e : MapEntry) (x : List T × V), ents[i]? = some e → es[i]? = some x → e.key = kv kag x.1) (hok : keysOk ks es = true) (w : World) :
    (Instr.findKey kt (kv kag cs) ents.toList).run P w = .ok (match mfind cs es with | some j => (ents[j]?).map fun e => (j, e.val) | none => none) w := by
  have hko : ∀ (i : Nat) (x : List T × V), es[i]? = some x → keyOk ks x.1 = true := by
    intro i x hx
    unfold keysOk at hok
    rw [List.all_eq_true] at hok
    exact hok x (List.mem_of_getElem? hx)
  have hlen : ents.toList.length = es.length := by simpa using hsz
  have hat : ∀ (j : Nat), ents.toList[j]? = ents[j]? := fun j => by simp
  cases kag with
  | false =>
    obtain ⟨s, rfl⟩ := keyT_one hK
    obtain ⟨x, rfl, hx⟩ := keyOk_one hc
    obtain ⟨d, hd, _, _⟩ := sameNow_plain hK hx hx
    have := findNow_run (k := kv false [x]) (kd := d) (cs := [x]) ents.toList es 0 hlen (fun j e y a b => by
      obtain ⟨z, hz, hzo⟩ := keyOk_one (hko j y b)
      obtain ⟨d', hd', h1, _⟩ := sameNow_plain hK hx hzo
      rw [hd] at hd'; simp at hd'; subst hd'
      have he := hkeys j e y (by rw [← hat]; exact a) b
      rw [he, hz]
      simp only [kv, Bool.false_eq_true, if_false, h1, keyEq, Bool.and_true])
    rw [MapKept.run_findKey hd this]
    cases mfind [x] es with
    | none => rfl
    | some j => simp
  | true =>
    have hst : ∃ fs, P.underlying kt = some (.struct fs) := by
      have h := hK.sh
      unfold keySh at h
      split at h <;> simp at h
      exact ⟨_, by assumption⟩
    obtain ⟨fs, hfs⟩ := hst
    have hfk : (Instr.findKey kt (kv true cs) ents.toList).run P w = (Instr.findAsking kt (kv true cs) ents.toList).run P w := by
      cases hl : ents.toList with
      | nil => simp [Instr.findKey, run_underlying hfs, Instr.findNow, Instr.findAsking]
      | cons e r => simp [Instr.findKey, run_underlying hfs, Instr.findNow, Instr.sameNow]
    rw [hfk, findAsking_run (cs := cs) ents.toList es 0 hlen (fun j e y a b => by
      have he := hkeys j e y (by rw [← hat]; exact a) b
      rw [he]
      exact equal_struct hK hc (hko j y b) 9998 w)]
    cases mfind cs es with
    | none => rfl
    | some j => simp

theorem fieldsSh_at : ∀ (fs : List Field) (i : Nat) (ks : List KSh), fieldsSh P i fs = some ks → ∀ f ∈ fs, f.name ≠ "_" ∧ ∃ (j : Nat) (s : KSh) (d : TypeDesc), ks[j]? = some s ∧ f.offset = i + j ∧ P.underlying f.type = some d ∧ (d = .bool ∨ (∃ k, d = .int k) ∨ d = .string)
  | [], _, _, _, f, hf => by simp at hf
  | g :: r, i, ks, h, f, hf => by
    simp only [fieldsSh] at h
    split at h
    · rename_i hgo
      have main : ∀ (s : KSh) (l : List KSh) (d : TypeDesc), fieldsSh P (i + 1) r = some l → ks = s :: l → P.underlying g.type = some d → (d = .bool ∨ (∃ k, d = .int k) ∨ d = .string) → f.name ≠ "_" ∧ ∃ (j : Nat) (s : KSh) (d : TypeDesc), ks[j]? = some s ∧ f.offset = i + j ∧ P.underlying f.type = some d ∧ (d = .bool ∨ (∃ k, d = .int k) ∨ d = .string) := by
        intro s l d hl hks hu hd
        subst hks
        rcases List.mem_cons.1 hf with e | e
        · subst e; exact ⟨hgo.2, 0, s, d, rfl, hgo.1, hu, hd⟩
        · obtain ⟨h1, j, s', d', h2, h3, h4⟩ := fieldsSh_at r (i + 1) l hl f e
          exact ⟨h1, j + 1, s', d', by simpa using h2, by omega, h4⟩
      split at h
      · rename_i hu hl; simp at h; exact main _ _ _ hl h.symm hu (.inl rfl)
      · rename_i hu hl; simp at h; exact main _ _ _ hl h.symm hu (.inr (.inl ⟨_, rfl⟩))
      · rename_i hu hl; simp at h; exact main _ _ _ hl h.symm hu (.inr (.inr rfl))
      · cases h
    · cases h

theorem checkKey_plain {t : TypeId} {d : TypeDesc} (hu : P.underlying t = some d) (hd : d = .bool ∨ (∃ k, d = .int k) ∨ d = .string) (em : Bool) (n : Nat) (v : Value) (w : World) : (Instr.checkKey em (n + 1) t v).run P w = .ok () w := by
  rcases hd with rfl | ⟨k, rfl⟩ | rfl <;> simp [Instr.checkKey, run_underlying hu]

theorem check_run {kt : TypeId} {ks : List KSh} {kag : Bool} (hK : KeyT P kt ks kag) {cs : List T} (hc : keyOk ks cs = true) (em : Bool) (w : World) : (Instr.checkKey em 10000 kt (kv kag cs)).run P w = .ok () w := by
  have h := hK.sh
  unfold keySh at h
  split at h
  · rename_i hu; exact checkKey_plain hu (.inl rfl) em 9999 _ w
  · rename_i hu; exact checkKey_plain hu (.inr (.inl ⟨_, rfl⟩)) em 9999 _ w
  · rename_i hu; exact checkKey_plain hu (.inr (.inr rfl)) em 9999 _ w
  · rename_i fs hu
    split at h
    · simp only [Option.map_eq_some_iff, Prod.mk.injEq] at h
      obtain ⟨l, hl, rfl, rfl⟩ := h
      have each := fieldsSh_at fs.toList 0 l hl
      obtain ⟨hlen, _⟩ := keyOk_at hc
      show (Instr.checkKey em (9998 + 1 + 1) kt (kv true cs)).run P w = .ok () w
      rw [Instr.checkKey]
      simp only [Sem.run_bind, run_underlying hu, Result.andThen_ok, kv, if_true]
      rw [← Array.forIn_toList]
      generalize fs.toList = L at each
      induction L with
      | nil => simp
      | cons f L ih =>
        obtain ⟨hn, j, s, d, h1, h2, h3, h4⟩ := each f (by simp)
        have hlt : j < cs.length := by rw [← hlen]; exact (List.getElem?_eq_some_iff.1 h1).1
        have p1 : (part f.type (cs.map Tv).toArray f.offset).run P w = .ok (Tv cs[j]) w := part_plain h3 h4 (by rw [h2]; simp [hlt]) w
        have p2 := checkKey_plain h3 h4 em 9998 (Tv cs[j]) w
        simp only [List.forIn_cons, Sem.run_bind, hn, ne_eq, not_false_eq_true, if_true, Result.andThen_ok, p1, p2, Sem.run_pure]
        exact ih fun g hg => each g (by simp [hg])
    · cases h
  · cases h

theorem sameBits_Tv (x : T) (n : Nat) : (∃ s : KSh, s.ok x = true) → Instr.sameBits n (Tv x) (Tv x) = true := by
  rintro ⟨s, hs⟩
  cases x <;> cases s <;> simp [KSh.ok] at hs <;> cases n <;> simp [Tv, Instr.sameBits, beq_mk]

theorem stays_run {kt : TypeId} {ks : List KSh} {kag : Bool} (hK : KeyT P kt ks kag) {cs : List T} (hc : keyOk ks cs = true) (w : World) : (Instr.keyThatStays (kv kag cs) (kv kag cs)).run P w = .ok (kv kag cs) w := by
  have hs : Instr.sameBits 10000 (kv kag cs) (kv kag cs) = true := by
    obtain ⟨h1, h2⟩ := keyOk_at hc
    cases kag with
    | true =>
      simp only [kv, if_true]
      rw [Instr.sameBits]
      simp only [List.size_toArray, List.length_map, BEq.rfl, Bool.true_and]
      rw [List.all_eq_true]
      intro p hp
      have hz : ∀ (l : List Value) (p : Value × Value), p ∈ l.zip l → p.1 = p.2 ∧ p.1 ∈ l := by
        intro l
        induction l with
        | nil => intro p h; simp at h
        | cons a l ih =>
          intro p h
          simp only [List.zip_cons_cons, List.mem_cons] at h
          rcases h with rfl | h
          · simp
          · obtain ⟨a1, a2⟩ := ih p h
            exact ⟨a1, List.mem_cons_of_mem _ a2⟩
      obtain ⟨e1, e2⟩ := hz _ p hp
      simp only [List.mem_map] at e2
      obtain ⟨x, hx, e3⟩ := e2
      obtain ⟨j, hj⟩ := List.mem_iff_getElem?.1 hx
      have hlt : j < ks.length := by rw [h1]; exact (List.getElem?_eq_some_iff.1 hj).1
      obtain ⟨a, b⟩ := p
      simp only at e1 e3 ⊢
      rw [← e1, ← e3]
      exact sameBits_Tv x 9999 ⟨ks[j], h2 j ks[j] x (by simp [hlt]) hj⟩
    | false =>
      obtain ⟨s, rfl⟩ := keyT_one hK
      obtain ⟨x, rfl, hx⟩ := keyOk_one hc
      simp only [kv, Bool.false_eq_true, if_false]
      exact sameBits_Tv x 10000 ⟨s, hx⟩
  simp [Instr.keyThatStays, hs]

end
end Go.GB


/-
  GbMq: the map operations, each as the model carries it out.
-/
namespace Go.GB

theorem Tv_inj {s : KSh} {x y : T} (hx : s.ok x = true) (hy : s.ok y = true) (h : x.eqb y = true) : x = y := by
  cases x <;> cases s <;> simp [KSh.ok] at hx <;> cases y <;> simp [KSh.ok] at hy <;> simp [T.eqb] at h <;> simp_all

theorem keyEq_eq : ∀ {ks : List KSh} {cs ds : List T}, keyOk ks cs = true → keyOk ks ds = true → keyEq cs ds = true → cs = ds
  | [], [], [], _, _, _ => rfl
  | [], _ :: _, _, h, _, _ => by simp [keyOk] at h
  | [], _, _ :: _, _, h, _ => by simp [keyOk] at h
  | _ :: _, [], _, h, _, _ => by simp [keyOk] at h
  | _ :: _, _ :: _, [], _, h, _ => by simp [keyOk] at h
  | s :: r, x :: c, y :: d, h1, h2, h3 => by
    simp only [keyOk, keyEq, Bool.and_eq_true] at h1 h2 h3
    rw [Tv_inj h1.1 h2.1 h3.1, keyEq_eq h1.2 h2.2 h3.2]

theorem mfind_at : ∀ {k : List T} {es : List (List T × V)} {i : Nat}, mfind k es = some i → ∃ e, es[i]? = some e ∧ keyEq k e.1 = true ∧ mget k es = some e.2 ∧ (∀ v, mset k v es = es.set i (k, v)) ∧ mdrop k es = es.eraseIdx i
  | k, [], i, h => by simp [mfind] at h
  | k, e :: r, i, h => by
    simp only [mfind] at h
    split at h
    · rename_i hk
      simp at h; subst h
      exact ⟨e, rfl, hk, by simp [mget, hk], fun v => by simp [mset, hk], by simp [mdrop, hk]⟩
    · rename_i hk
      simp only [Option.map_eq_some_iff] at h
      obtain ⟨j, hj, rfl⟩ := h
      obtain ⟨e', h1, h2, h3, h4, h5⟩ := mfind_at hj
      exact ⟨e', by simpa using h1, h2, by simp [mget, hk, h3], fun v => by simp [mset, hk, h4], by simp [mdrop, hk, h5]⟩
theorem mfind_none : ∀ {k : List T} {es : List (List T × V)}, mfind k es = none → mget k es = none ∧ (∀ v, mset k v es = es ++ [(k, v)]) ∧ mdrop k es = es
  | k, [], _ => ⟨rfl, fun _ => rfl, rfl⟩
  | k, e :: r, h => by
    simp only [mfind] at h
    split at h
    · cases h
    · rename_i hk
      have hr : mfind k r = none := by simpa using h
      obtain ⟨h1, h2, h3⟩ := mfind_none hr
      exact ⟨by simp [mget, hk, h1], fun v => by simp [mset, hk, h2], by simp [mdrop, hk, h3]⟩

section
variable {P : Program} {o : Oper} {gc : Bool} {base : Nat} {st : St}

theorem xtrOf_inv {f : FuncId} {cnt : Bool} (h : xtrOf P f = some cnt) : ∃ fn, P.funcs[f]? = some fn ∧ fn.body.isNone = true ∧ fn.origin = "" ∧ fn.name = (if cnt then "internal/bytealg.CountString" else "internal/bytealg.IndexByteString") := by
  unfold xtrOf at h
  split at h
  · rename_i fn hf
    split at h
    · rename_i h1
      split at h
      · rename_i h2
        simp at h; subst h
        exact ⟨fn, hf, h1.1, h1.2, by simpa using h2⟩
      · split at h
        · rename_i h2
          simp at h; subst h
          exact ⟨fn, hf, h1.1, h1.2, by simpa using h2⟩
        · simp at h
    · simp at h
  · simp at h

theorem xtr_next0 : (Extern.allNextRows.lookup "" : Option Extern.NextRow) = none := by kernel_rfl
theorem xtr_next1 : (Extern.allNextRows.lookup "internal/bytealg.CountString" : Option Extern.NextRow) = none := by kernel_rfl
theorem xtr_next2 : (Extern.allNextRows.lookup "internal/bytealg.IndexByteString" : Option Extern.NextRow) = none := by kernel_rfl

theorem xtr_fn {fn : Func} (hn : (Extern.allNextRows.lookup fn.name : Option Extern.NextRow) = none) (ho : (Extern.allNextRows.lookup fn.origin : Option Extern.NextRow) = none) : Extern.findNext fn = none := by
  show ((Extern.allNextRows.lookup fn.name).map (· fn.params fn.resultTypes) <|> (Extern.allNextRows.lookup fn.origin).map (· fn.params fn.resultTypes)) = none
  rw [hn, ho]; rfl
theorem xtr_run {f : FuncId} {cnt : Bool} (h : xtrOf P f = some cnt) (s : List UInt8) (c : Int) (w : World) :
    (callFunc f #[.string ⟨⟨s⟩⟩, .int .u8 c]).run P w = .ok (.value (.int .i64 (if cnt then (Go.Lib.countByte s c.toNat.toUInt8 : Int) else Go.Lib.indexByte s c.toNat.toUInt8))) w := by
  obtain ⟨fn, hf, hb, ho, hn⟩ := xtrOf_inv h
  cases cnt with
  | true =>
    simp only [if_true] at hn
    have he : Extern.find fn = some Extern.BytealgCount.count := by
      unfold Extern.find
      rw [hn]
      rfl
    rw [run_callFunc_extern hf (by rw [hn]; rfl) hb (xtr_fn (by rw [hn]; exact xtr_next1) (by rw [ho]; exact xtr_next0)) he]
    rw [Go.Lib.run_countString]
    rfl
  | false =>
    simp only [Bool.false_eq_true, if_false] at hn
    have he : Extern.find fn = some Extern.BytealgIndexByte.indexByte := by
      unfold Extern.find
      rw [hn]
      rfl
    rw [run_callFunc_extern hf (by rw [hn]; rfl) hb (xtr_fn (by rw [hn]; exact xtr_next2) (by rw [ho]; exact xtr_next0)) he]
    rw [Go.Lib.run_indexByteString]
    rfl

theorem e_xtr {f : FuncId} {cnt : Bool} {args : Array Operand} {ats : Array TypeId} {x y : Operand} {x' y' : Ar} {v : V} {ps : List Bool} (hop : o.op = .call { callee := .value (.func f), args := args, argTypes := ats }) (ha : args.toList = [x, y])
    (hf : xtrOf P f = some cnt) (hx : opA x = some x') (hy : opA y = some y') (he : evalN gc st (.xtr cnt x' y') = some (v, ps)) (hp : ∀ q ∈ ps, q) : ESound P o gc st v := by
  intro C Λ ac _ hg h
  simp only [evalN] at he
  split at he
  · rename_i s p1 c p2 h1 h2
    simp only [Option.some.injEq, Prod.mk.injEq] at he
    obtain ⟨rfl, rfl⟩ := he
    have hx1 := rd_sound h hx h1 (fun q hq => hp q (by simp [hq])) hg
    have hy1 := rd_sound h hy h2 (fun q hq => hp q (by simp [hq])) hg
    have e1 := hx1.repT.str_inv
    have e2 := hy1.repT.int_inv
    have hm : args.toList.map ac.eval = [.string ⟨⟨s⟩⟩, .int .u8 c] := by simp [ha, e1, e2]
    have hm2 : args.map ac.eval = #[.string ⟨⟨s⟩⟩, .int .u8 c] := by
      apply Array.ext'
      simpa using hm
    refine ⟨_, ?_, .t (.int _ _)⟩
    simp only [execOp, hop, resolve, Act.eval, Deferred.ofValue, Sem.run_bind, Sem.run_pure, Result.andThen_ok, invoke, hm2]
    exact xtr_run hf s c Λ.w
  · cases he

theorem zeroOne_run {t : TypeId} {zv : V} (h : zeroOne P t = some zv) (w : World) : ∃ z, (zeroValue t).run P w = .ok z w ∧ ∀ Λ, RelV Λ z zv := by
  unfold zeroOne at h
  cases hz : zerosOf P t with
  | none => rw [hz] at h; simp at h
  | some zs =>
    obtain ⟨i, z, hi, hz1, hlen, hok⟩ := zerosOf_spec hz
    have hrun : (zeroValue t).run P w = .ok z w := by simp [zeroValue, typeInfo, hi, hz1]
    have hb : (P.info? t).bind (·.zero) = some z := by simp [hi, hz1]
    rw [hz, hb] at h
    refine ⟨z, hrun, fun Λ => ?_⟩
    have hrc := zeros_relC (Λ := Λ) hok
    have one : ∀ (y : V), zs = [y] → z.cells = #[z] → RelV Λ z y := by
      intro y hy hc
      exact hrc.2 0 z y (by rw [hc]; rfl) (by rw [hy]; rfl)
    split at h
    · rename_i e1 e2
      simp at e1 e2 h; subst e1; subst e2; subst h
      exact .agg (by simpa [Value.cells] using hrc.1) fun j v c a b => hrc.2 j v c (by simpa [Value.cells] using a) b
    all_goals first
      | (rename_i e1 e2
         simp at e1 e2 h
         obtain rfl := h
         subst e2
         exact one _ e1 rfl)
      | (simp at h)

theorem RelS.objMap {Λ : L} {s : S} (h : RelS Λ s) {k : Nat} {kag : Bool} {es : List (List T × V)} {sx : Option (Nat × List Nat)} (hk : aget s.sto k = some (.map kag es sx)) {b : Nat} (hb : Λ.lab b = .obj k) :
    ∃ (ents : Array MapEntry) (clock : Nat), Λ.w.heap[b]? = some (.map ents clock) ∧ RepM Λ kag ents clock es sx := by
  obtain ⟨b', ents, clock, h1, h2, h3⟩ := (h.sto k _ hk).2
  obtain rfl := h.inj b b' k hb h1
  exact ⟨ents, clock, h2, h3⟩

theorem RepM.keyed {Λ : L} {kag : Bool} {ents : Array MapEntry} {clock : Nat} {es : List (List T × V)} {sx : Option (Nat × List Nat)} (h : RepM Λ kag ents clock es sx) {ks : List KSh} (hok : keysOk ks es = true) :
    ∀ (i : Nat) (e : MapEntry) (x : List T × V), ents[i]? = some e → es[i]? = some x → e.key = kv kag x.1 := by
  intro i e x a b
  unfold keysOk at hok
  rw [List.all_eq_true] at hok
  exact (h.at_ i e x a b).1.plain (hok x (List.mem_of_getElem? b))

theorem RepM.val {Λ : L} {kag : Bool} {ents : Array MapEntry} {clock : Nat} {es : List (List T × V)} {sx : Option (Nat × List Nat)} (h : RepM Λ kag ents clock es sx) {i : Nat} {x : List T × V} (hx : es[i]? = some x) : ∃ e, ents[i]? = some e ∧ RelV Λ e.val x.2 := by
  have hlt : i < ents.size := by rw [h.size]; exact (List.getElem?_eq_some_iff.1 hx).1
  exact ⟨ents[i], by simp [hlt], (h.at_ i _ x (by simp [hlt]) hx).2⟩

theorem okV_rel {Λ : L} {v : Value} {x : V} (h : RelV Λ v x) (ok b : Bool) : RelV Λ (if ok then .tuple #[v, .bool b] else v) (okV ok x b) := by
  cases ok with
  | false => exact h
  | true =>
    refine .tup rfl fun j u c hu hc => ?_
    match j, hu, hc with
    | 0, hu, hc => simp at hu hc; subst hu; subst hc; exact h
    | 1, hu, hc => simp at hu hc; subst hu; subst hc; exact .t (.bool b)

theorem e_lookup {t kt et : TypeId} {x k : Operand} {ok : Bool} {ks : List KSh} {kag : Bool} {zv : V} {x' k' : Ar} {v : V} {ps : List Bool} (hop : o.op = .lookup t x k ok) (hu : P.underlying t = some (.map kt et)) (hK : keySh P kt = some (ks, kag)) (hz : zeroOne P et = some zv)
    (hx : opA x = some x') (hk : opA k = some k') (he : evalN gc st (.lookup ks kag zv ok x' k') = some (v, ps)) (hp : ∀ q ∈ ps, q) : ESound P o gc st v := by
  intro C Λ a hC hg hr
  simp only [evalN] at he
  generalize h1 : rd gc st x' = rx at he
  generalize h2 : rd gc st k' = rk at he
  obtain ⟨vx, p1⟩ := rx
  obtain ⟨vk, p2⟩ := rk
  simp only at he
  split at he
  · cases he
  · rename_i cs hkc
    obtain ⟨z, hz1, hz2⟩ := zeroOne_run hz Λ.w
    have KT : KeyT P kt ks kag := ⟨hK⟩
    split at he
    · rename_i q
      split at he
      · rename_i kag' es sx hes
        have hxv : RelV Λ (a.eval x) (.mp q) := rd_sound hr hx h1 (fun q hq => hp q (by split at he <;> (simp at he; obtain ⟨_, rfl⟩ := he; simp [hq]))) hg
        have hkv : RelV Λ (a.eval k) vk := rd_sound hr hk h2 (fun q hq => hp q (by split at he <;> (simp at he; obtain ⟨_, rfl⟩ := he; simp [hq]))) hg
        have hkag : kag' = kag := by
          have := hp (kag' == kag) (by split at he <;> (simp at he; obtain ⟨_, rfl⟩ := he; simp))
          simpa using this
        have hkeys : keysOk ks es = true := hp (keysOk ks es) (by split at he <;> (simp at he; obtain ⟨_, rfl⟩ := he; simp))
        subst hkag
        obtain ⟨ek, hko⟩ := key_val hkv hkc
        generalize hex : a.eval x = u at hxv
        cases hxv with
        | @mp b _ hql hb =>
          obtain ⟨ents, clock, hh, hM⟩ := hr.s.objMap hes hb
          have hf := find_run KT hko hM.size (hM.keyed hkeys) hkeys Λ.w
          have hrun1 : ∀ (i : Nat) (y : Value), (Instr.findKey kt (kv kag' cs) ents.toList).run P Λ.w = .ok (some (i, y)) Λ.w → (execOp a.eval o).run P Λ.w = .ok (.value (if ok then .tuple #[y, .bool true] else y)) Λ.w := by
            intro i y hf'
            simp only [execOp, hop, hex, ek]
            simp only [Instr.lookup, Sem.run_bind, run_underlying hu, MapKept.run_getObj_map hh, Result.andThen_ok, Sem.run_pure, check_run KT hko, hf']
          have hrun0 : (Instr.findKey kt (kv kag' cs) ents.toList).run P Λ.w = .ok none Λ.w → (execOp a.eval o).run P Λ.w = .ok (.value (if ok then .tuple #[z, .bool false] else z)) Λ.w := by
            intro hf'
            simp only [execOp, hop, hex, ek]
            simp only [Instr.lookup, Sem.run_bind, run_underlying hu, MapKept.run_getObj_map hh, Result.andThen_ok, Sem.run_pure, check_run KT hko, hf', hz1]
          split at he
          · rename_i v' hg'
            simp at he
            obtain ⟨rfl, _⟩ := he
            cases hm : mfind cs es with
            | none => rw [(mfind_none hm).1] at hg'; cases hg'
            | some i =>
              obtain ⟨e, h3, h4, h5, _, _⟩ := mfind_at hm
              rw [hg'] at h5; simp at h5; subst h5
              obtain ⟨en, h6, h7⟩ := hM.val h3
              exact ⟨_, hrun1 i en.val (by rw [hf, hm]; simp [h6]), okV_rel h7 ok true⟩
          · rename_i hg'
            simp at he
            obtain ⟨rfl, _⟩ := he
            cases hm : mfind cs es with
            | some i => obtain ⟨e, _, _, h5, _, _⟩ := mfind_at hm; rw [hg'] at h5; cases h5
            | none =>
              exact ⟨_, hrun0 (by rw [hf, hm]), okV_rel (hz2 Λ) ok false⟩
      · cases he
    · simp at he
      obtain ⟨rfl, rfl⟩ := he
      have hxv : RelV Λ (a.eval x) (.t .nilm) := rd_sound hr hx h1 (fun q hq => hp q (by simp [hq])) hg
      have hkv : RelV Λ (a.eval k) vk := rd_sound hr hk h2 (fun q hq => hp q (by simp [hq])) hg
      obtain ⟨ek, hko⟩ := key_val hkv hkc
      generalize hex : a.eval x = u at hxv
      have hu' : u = .map none := by cases hxv with | t h => cases h; rfl
      subst hu'
      have hf := find_run (ents := #[]) (es := []) KT hko rfl (by simp) (by simp [keysOk]) Λ.w
      refine ⟨_, ?_, okV_rel (hz2 Λ) ok false⟩
      simp only [execOp, hop, hex, ek]
      simp only [Instr.lookup, Sem.run_bind, run_underlying hu, Result.andThen_ok, Sem.run_pure, check_run KT hko]
      simp only [mfind] at hf
      simp only [hf, Sem.run_bind, Result.andThen_ok, hz1, Sem.run_pure]
    · cases he

theorem e_eqn2 {t e ty : TypeId} {x y : Operand} {neg : Bool} {x' : Ar} {v : V} {ps : List Bool} (hop : o.op = .binOp (if neg then .neq else .eql) t x y ty) (hy : y = .const (.slice none 0 0)) (hu : P.underlying t = some (.slice e)) (hx : opA x = some x')
    (he : evalN gc st (.eqn neg x') = some (v, ps)) (hp : ∀ q ∈ ps, q) : ESound P o gc st v := by
  intro C Λ a hC hg hr
  have hc : ∀ v, a.eval (.const v) = v := fun _ => rfl
  have run : ∀ (ad : Option Addr) (n c : Nat), a.eval x = .slice ad n c → (execOp a.eval o).run P Λ.w = .ok (.value (.bool (if neg then !ad.isNone else ad.isNone))) Λ.w := by
    intro ad n c hex
    have hq : (Op.equal t (.slice ad n c) (.slice none 0 0)).run P Λ.w = .ok ad.isNone Λ.w := run_equal_step _ _ Λ.w _ (fun n => by cases ad <;> simp [Op.equalIn, run_underlying hu])
    subst hy
    cases neg <;> simp [execOp, hop, hex, hc, eqGuard, binOp, hq]
  simp only [evalN] at he
  generalize h1 : rd gc st x' = rx at he
  obtain ⟨vx, p1⟩ := rx
  have lst : ∀ (xs : List (List T)), RepT Λ.lab Λ.w (a.eval x) (.lst xs) → ∃ ad n c, a.eval x = .slice ad n c ∧ (ad.isNone = true → ∀ c ∈ xs, c = []) := by
    intro xs h
    generalize a.eval x = u at h
    cases h with
    | lst ad cap sz xs b o vf h1 h2 h3 h4 h5 h6 =>
      refine ⟨ad, xs.length, cap, rfl, fun hn c hc => ?_⟩
      cases ad with
      | some _ => simp at hn
      | none =>
        cases c with
        | nil => rfl
        | cons z s =>
          obtain ⟨i, hi⟩ := List.mem_iff_getElem?.1 hc
          exact absurd (h3 i 0 (z :: s) z hi rfl) (by simp)
  have fin : ∀ (xs : List (List T)), RepT Λ.lab Λ.w (a.eval x) (.lst xs) → ∃ v', (execOp a.eval o).run P Λ.w = .ok (.value v') Λ.w ∧ RelV Λ v' (if neg then .ub True (∀ c ∈ xs, c = []) else .ub (∀ c ∈ xs, c = []) True) := by
    intro xs h
    obtain ⟨ad, n, c, e1, e2⟩ := lst xs h
    refine ⟨_, run ad n c e1, ?_⟩
    cases neg with
    | false => simp only [Bool.false_eq_true, if_false]; exact .ub e2 (fun _ => trivial)
    | true => simp only [if_true]; exact .ub (fun _ => trivial) (fun h => e2 (by simpa using h))
  split at he
  · rename_i p h
    simp only [Prod.mk.injEq] at h
    obtain ⟨rfl, rfl⟩ := h
    simp at he; obtain ⟨rfl, rfl⟩ := he
    have hxv := rd_sound hr hx h1 hp hg
    generalize hex : a.eval x = u at hxv
    cases hxv with
    | nils => exact ⟨_, run _ 0 0 hex, .ub (fun _ => trivial) (fun _ => trivial)⟩
  · rename_i p h
    simp only [Prod.mk.injEq] at h
    obtain ⟨rfl, rfl⟩ := h
    simp at he; obtain ⟨rfl, rfl⟩ := he
    have hxv := rd_sound hr hx h1 hp hg
    generalize hex : a.eval x = u at hxv
    cases hxv with
    | slc _ _ _ => exact ⟨_, run _ _ _ hex, by cases neg <;> exact .t (.bool _)⟩
  · rename_i xs p h
    simp only [Prod.mk.injEq] at h
    obtain ⟨rfl, rfl⟩ := h
    simp at he; obtain ⟨rfl, rfl⟩ := he
    have hxv := rd_sound hr hx h1 hp hg
    have : RepT Λ.lab Λ.w (a.eval x) (.lst xs) := by
      generalize a.eval x = u at hxv
      cases hxv with
      | own h _ _ _ _ => exact h
    exact fin xs this
  · rename_i xs p h
    simp only [Prod.mk.injEq] at h
    obtain ⟨rfl, rfl⟩ := h
    simp at he; obtain ⟨rfl, rfl⟩ := he
    exact fin xs (rd_sound hr hx h1 hp hg).repT
  · cases he

theorem e_eqst {t ty : TypeId} {x y : Operand} {neg : Bool} {ks : List KSh} {x' y' : Ar} {v : V} {ps : List Bool} (hop : o.op = .binOp (if neg then .neq else .eql) t x y ty) (hK : keySh P t = some (ks, true)) (hx : opA x = some x') (hy : opA y = some y')
    (he : evalN gc st (.eqst neg ks x' y') = some (v, ps)) (hp : ∀ q ∈ ps, q) : ESound P o gc st v := by
  intro C Λ a hC hg hr
  simp only [evalN] at he
  generalize h1 : rd gc st x' = rx at he
  generalize h2 : rd gc st y' = ry at he
  obtain ⟨vx, p1⟩ := rx
  obtain ⟨vy, p2⟩ := ry
  simp only at he
  split at he
  · rename_i cs ds hc hd
    simp at he; obtain ⟨rfl, rfl⟩ := he
    have hxv : RelV Λ (a.eval x) vx := rd_sound hr hx h1 (fun q hq => hp q (by simp [hq])) hg
    have hyv : RelV Λ (a.eval y) vy := rd_sound hr hy h2 (fun q hq => hp q (by simp [hq])) hg
    obtain ⟨e1, k1⟩ := key_val hxv hc
    obtain ⟨e2, k2⟩ := key_val hyv hd
    have KT : KeyT P t ks true := ⟨hK⟩
    have hq := equal_struct KT k1 k2 9998 Λ.w
    have hgt : P.eqGuardType P.depth t = false := by
      have h := hK
      unfold keySh at h
      split at h <;> try (simp at h; done)
      split at h
      · rename_i h'; exact h'.2
      · cases h
    simp only [kv, if_true] at e1 e2 hq
    refine ⟨.bool (if neg then !(keyEq cs ds) else keyEq cs ds), ?_, .t (.bool _)⟩
    cases neg with
    | false =>
      have hb := run_eql_struct (P := P) Λ.w t (cs.map Tv).toArray (ds.map Tv).toArray
      rw [hq] at hb
      simp only [Bool.false_eq_true, if_false] at hop ⊢
      simp only [execOp, hop, e1, e2]
      have hgu := run_eqGuard_agg (P := P) Λ.w .eql t x y (cs.map Tv).toArray (ds.map Tv).toArray hgt
      simp [hgu, hb]
    | true =>
      have hb := run_neq_struct (P := P) Λ.w t (cs.map Tv).toArray (ds.map Tv).toArray
      rw [hq] at hb
      simp only [if_true] at hop ⊢
      simp only [execOp, hop, e1, e2]
      have hgu := run_eqGuard_agg (P := P) Λ.w .neq t x y (cs.map Tv).toArray (ds.map Tv).toArray hgt
      simp [hgu, hb]
  · cases he

/-- the world behind a map's change -/
def setMap (w : World) (b : Nat) (ents : Array MapEntry) (clock : Nat) : World := { w with heap := w.heap.setIfInBounds b (.map ents clock) }
theorem setMap_wrote {w : World} {b : Nat} {ents : Array MapEntry} {clock : Nat} : Wrote w (setMap w b ents clock) b :=
  ⟨rfl, rfl, rfl, by simp [setMap], fun c hc => by simp [setMap, Ne.symm hc]⟩
theorem setMap_at {w : World} {b : Nat} {ents : Array MapEntry} {clock : Nat} {ob : Obj} (h : w.heap[b]? = some ob) : (setMap w b ents clock).heap[b]? = some (.map ents clock) := (MapKept.heap_set h).1

theorem map_write {Λ : L} {s : S} {q b : Nat} {kag : Bool} {es' : List (List T × V)} {sx' : Option (Nat × List Nat)} {ents ents' : Array MapEntry} {clock clock' : Nat} (h : RelS Λ s) (hq : q < Λ.nxt) (hb : Λ.lab b = .obj q) (hh : Λ.w.heap[b]? = some (.map ents clock))
    (hM : RepM Λ kag ents' clock' es' sx') {v : V} {rd : Bool} :
    Kp Λ { Λ with w := setMap Λ.w b ents' clock' } ∧ RelS { Λ with w := setMap Λ.w b ents' clock' } (s.app { v := v, ob := [(q, .map kag es' sx')], rd := rd }) ∧ ∀ k, Free Λ k → Free { Λ with w := setMap Λ.w b ents' clock' } k := by
  have hkp : Kp Λ { Λ with w := setMap Λ.w b ents' clock' } := Kp.wrote setMap_wrote hb
  refine ⟨hkp, ?_, fun k h => ⟨h.obj, h.arr, h.fro⟩⟩
  refine h.step hkp rfl (fun j ob hj => ?_) h.inj (fun c hc => h.new c (by simpa [setMap] using hc)) h.bnd h.frz
  simp only [S.app, asets] at hj
  rw [aget_aset] at hj
  split at hj
  · rename_i e; subst e
    simp at hj; subst hj
    exact .inr ⟨hq, b, ents', clock', hb, setMap_at hh, hM.keep (fun _ _ h => h.mono hkp.fr) (fun _ _ _ _ h => h.mono hkp)⟩
  · rename_i hne
    refine .inl ⟨hj, fun c hc => ?_, rfl⟩
    have : c ≠ b := by rintro rfl; rw [hb] at hc; simp at hc; exact hne hc
    exact setMap_wrote.old c this

theorem kv_repA {l : Nat → Lab} {w : World} {kag : Bool} {ks : List KSh} {cs : List T} (hk : keyOk ks cs = true) (h1 : kag = false → ∃ x, cs = [x]) : RepA l w kag (kv kag cs) cs := by
  have hT : ∀ (s : KSh) (x : T), s.ok x = true → RepT l w (Tv x) x := by
    intro s x h
    cases x <;> cases s <;> simp [KSh.ok] at h <;> constructor
  obtain ⟨k1, k2⟩ := keyOk_at hk
  unfold RepA
  cases kag with
  | true =>
    simp only [if_true, kv]
    refine ⟨_, rfl, by simp, fun j u x hu hx => ?_⟩
    have hlt : j < ks.length := by rw [k1]; exact (List.getElem?_eq_some_iff.1 hx).1
    simp [hx] at hu; subst hu
    exact hT ks[j] x (k2 j _ x (by simp [hlt]) hx)
  | false =>
    obtain ⟨x, rfl⟩ := h1 rfl
    have hlt : 0 < ks.length := by rw [k1]; simp
    exact ⟨x, rfl, by simpa [kv] using hT ks[0] x (k2 0 _ x (by simp) rfl)⟩

/-- an entry's value is set -/
theorem RepM.set {Λ : L} {kag : Bool} {ents : Array MapEntry} {clock : Nat} {es : List (List T × V)} {sx : Option (Nat × List Nat)} (h : RepM Λ kag ents clock es sx) {i : Nat} {k : Value} {cs : List T} {u : Value} {v : V} (hk : RepA Λ.lab Λ.w kag k cs) (hv : RelV Λ u v) :
    RepM Λ kag (ents.modify i fun e => { e with key := k, val := u }) clock (es.set i (cs, v)) sx := by
  have hget : ∀ (j : Nat) (e : MapEntry), (ents.modify i fun e => { e with key := k, val := u })[j]? = some e → ∃ e0, ents[j]? = some e0 ∧ e.born = e0.born ∧ (i ≠ j → e = e0) ∧ (i = j → e.key = k ∧ e.val = u) := by
    intro j e he
    rw [Array.getElem?_modify] at he
    split at he
    · rename_i hij
      cases h0 : ents[j]? with
      | none => rw [h0] at he; simp at he
      | some e0 => rw [h0] at he; simp at he; subst he; exact ⟨e0, rfl, rfl, fun h => absurd hij h, fun _ => ⟨rfl, rfl⟩⟩
    · rename_i hij; exact ⟨e, he, rfl, fun _ => rfl, fun h => absurd h hij⟩
  refine ⟨by simp [h.size], fun j e x a b => ?_, fun j e a => ?_, fun j j' e f a b hb => ?_, fun c bs hs => ?_⟩
  · obtain ⟨e0, h0, _, h2, h3⟩ := hget j e a
    rw [List.getElem?_set] at b
    split at b
    · rename_i hij
      split at b
      · simp at b; subst b
        obtain ⟨h4, h5⟩ := h3 hij
        exact ⟨by rw [h4]; exact hk, by rw [h5]; exact hv⟩
      · cases b
    · rename_i hij
      rw [h2 hij]; exact h.at_ j e0 x h0 b
  · obtain ⟨e0, h0, h1, _, _⟩ := hget j e a
    rw [h1]; exact h.born j e0 h0
  · obtain ⟨e0, h0, h1, _, _⟩ := hget j e a
    obtain ⟨f0, g0, g1, _, _⟩ := hget j' f b
    exact h.apart j j' e0 f0 h0 g0 (by rw [← h1, ← g1]; exact hb)
  · obtain ⟨e1, e2⟩ := h.known c bs hs
    refine ⟨e1, ?_⟩
    rw [← e2]
    apply List.ext_getElem?
    intro j
    simp only [List.getElem?_map]
    have : (ents.modify i fun e => { e with key := k, val := u }).toList[j]? = (ents.modify i fun e => { e with key := k, val := u })[j]? := Array.getElem?_toList
    rw [this, Array.getElem?_modify]
    have h2 : ents.toList[j]? = ents[j]? := by simp
    rw [h2]
    split
    · cases ents[j]? <;> rfl
    · rfl

/-- a new entry -/
theorem RepM.push {Λ : L} {kag : Bool} {ents : Array MapEntry} {clock : Nat} {es : List (List T × V)} {sx : Option (Nat × List Nat)} (h : RepM Λ kag ents clock es sx) {k : Value} {cs : List T} {u : Value} {v : V} (hk : RepA Λ.lab Λ.w kag k cs) (hv : RelV Λ u v) {sx' : Option (Nat × List Nat)}
    (hs : ∀ c bs, sx' = some (c, bs) → ∃ c0 bs0, sx = some (c0, bs0) ∧ c = c0 + 1 ∧ bs = bs0 ++ [c0]) :
    RepM Λ kag (ents.push { key := k, val := u, born := clock }) (clock + 1) (es ++ [(cs, v)]) sx' := by
  have hget : ∀ (j : Nat) (e : MapEntry), (ents.push { key := k, val := u, born := clock })[j]? = some e → (ents[j]? = some e ∧ j < ents.size) ∨ (j = ents.size ∧ e = { key := k, val := u, born := clock }) := by
    intro j e he
    rw [Array.getElem?_push] at he
    split at he
    · rename_i hj; simp at he; exact .inr ⟨hj, he.symm⟩
    · rename_i hj; exact .inl ⟨he, (Array.getElem?_eq_some_iff.1 he).1⟩
  refine ⟨by simp [h.size], fun j e x a b => ?_, fun j e a => ?_, fun j j' e f a b hb => ?_, fun c bs hc => ?_⟩
  · rcases hget j e a with ⟨h1, h2⟩ | ⟨h1, rfl⟩
    · rw [List.getElem?_append_left (by rw [← h.size]; exact h2)] at b
      exact h.at_ j e x h1 b
    · subst h1
      rw [List.getElem?_append_right (by rw [h.size]; exact Nat.le_refl _), h.size] at b
      simp at b; subst b
      exact ⟨hk, hv⟩
  · rcases hget j e a with ⟨h1, h2⟩ | ⟨h1, rfl⟩
    · have := h.born j e h1; omega
    · simp
  · rcases hget j e a with ⟨h1, h2⟩ | ⟨h1, rfl⟩
    · rcases hget j' f b with ⟨g1, g2⟩ | ⟨g1, rfl⟩
      · exact h.apart j j' e f h1 g1 hb
      · have := h.born j e h1; simp at hb; omega
    · rcases hget j' f b with ⟨g1, g2⟩ | ⟨g1, rfl⟩
      · have := h.born j' f g1; simp at hb; omega
      · omega
  · obtain ⟨c0, bs0, h0, rfl, rfl⟩ := hs c bs hc
    obtain ⟨e1, e2⟩ := h.known c0 bs0 h0
    exact ⟨by rw [e1], by rw [← e2, ← e1]; simp⟩

theorem RepM.forget {Λ : L} {kag : Bool} {ents : Array MapEntry} {clock : Nat} {es : List (List T × V)} {sx : Option (Nat × List Nat)} (h : RepM Λ kag ents clock es sx) : RepM Λ kag ents clock es none :=
  ⟨h.size, h.at_, h.born, h.apart, fun _ _ h => by cases h⟩

theorem map_eraseIdx {α β : Type} (f : α → β) : ∀ (l : List α) (i : Nat), (l.eraseIdx i).map f = (l.map f).eraseIdx i
  | [], i => by simp
  | x :: r, 0 => by simp
  | x :: r, i + 1 => by simp [map_eraseIdx f r i]
theorem RepM.erase {Λ : L} {kag : Bool} {ents : Array MapEntry} {clock : Nat} {es : List (List T × V)} {sx : Option (Nat × List Nat)} (h : RepM Λ kag ents clock es sx) (i : Nat) : RepM Λ kag (ents.eraseIdxIfInBounds i) clock (es.eraseIdx i) (sdrop (some i) sx) := by
  have hl : (ents.eraseIdxIfInBounds i).toList = ents.toList.eraseIdx i := by
    unfold Array.eraseIdxIfInBounds
    split
    · simp
    · rename_i hi
      rw [List.eraseIdx_of_length_le (by simpa using hi)]
  have hat : ∀ j : Nat, (ents.eraseIdxIfInBounds i)[j]? = (ents.toList.eraseIdx i)[j]? := fun j => by rw [← hl]; exact Array.getElem?_toList.symm
  have hidx : ∀ (α : Type) (l : List α) (j : Nat), (l.eraseIdx i)[j]? = l[if j < i then j else j + 1]? := fun α l j => by rw [List.getElem?_eraseIdx]; split <;> rfl
  have hent : ∀ (j : Nat) (e : MapEntry), (ents.eraseIdxIfInBounds i)[j]? = some e → ents[if j < i then j else j + 1]? = some e := by
    intro j e he
    rw [hat, hidx] at he
    simpa using he
  refine ⟨?_, fun j e x a b => ?_, fun j e a => h.born _ e (hent j e a), fun j j' e f a b hb => ?_, fun c bs hc => by
    cases sx with
    | none => cases hc
    | some y =>
      obtain ⟨c', bs'⟩ := y
      obtain ⟨h1, h2⟩ := h.known c' bs' rfl
      simp only [sdrop, Option.some.injEq, Prod.mk.injEq] at hc
      obtain ⟨rfl, rfl⟩ := hc
      exact ⟨h1, by rw [hl, ← h2, map_eraseIdx]⟩⟩
  · have h1 : (ents.eraseIdxIfInBounds i).size = (ents.toList.eraseIdx i).length := by rw [← hl]; exact Array.length_toList.symm
    rw [h1, List.length_eraseIdx, List.length_eraseIdx]
    have := h.size
    simp [this]
  · rw [hidx] at b
    exact h.at_ _ e x (hent j e a) b
  · have := h.apart _ _ e f (hent j e a) (hent j' f b) hb
    split at this <;> split at this <;> omega

theorem o_mupd {t kt et : TypeId} {x k v : Operand} {ks : List KSh} {kag : Bool} {x' k' v' : Ar} {q : Nat} {cs : List T} {es : List (List T × V)} {sx : Option (Nat × List Nat)} (hop : o.op = .mapUpdate t x k v) (hu : P.underlying t = some (.map kt et)) (hK : keySh P kt = some (ks, kag))
    (hx : opA x = some x') (hk : opA k = some k') (hv : opA v = some v') (hxv : x'.u st = .mp q) (hkc : keyC ks kag (k'.u st) = some cs) (hes : aget st.s.sto q = some (.map kag es sx)) (hok : keysOk ks es = true) :
    OSound P o base st { v := .top, ob := [(q, .map kag (mset cs (v'.u st) es) none)], rd := true } := by
  intro C Λ a next Q hC hr _ _ hnext
  have hx1 := hr.opu hx
  have hv1 := hr.opu hv
  obtain ⟨ek, hko⟩ := key_val (hr.opu hk) hkc
  have KT : KeyT P kt ks kag := ⟨hK⟩
  rw [hxv] at hx1
  generalize hex : a.eval x = u at hx1
  cases hx1 with
  | @mp b _ hql hb =>
    obtain ⟨ents, clock, hh, hM⟩ := hr.s.objMap hes hb
    have hf := find_run KT hko hM.size (hM.keyed hok) hok Λ.w
    have hka : RepA Λ.lab Λ.w kag (kv kag cs) cs := kv_repA hko fun h => by subst h; obtain ⟨s, rfl⟩ := keyT_one KT; obtain ⟨x, e, _⟩ := keyOk_one hko; exact ⟨x, e⟩
    cases hm : mfind cs es with
    | some i =>
      obtain ⟨e, h1, h2, h3, h4, _⟩ := mfind_at hm
      obtain ⟨en, h5, h6⟩ := hM.val h1
      have hek : en.key = kv kag cs := by
        have := hM.keyed hok i en e h5 h1
        have hko' : keyOk ks e.1 = true := by unfold keysOk at hok; rw [List.all_eq_true] at hok; exact hok e (List.mem_of_getElem? h1)
        rw [this, keyEq_eq hko hko' h2]
      have hrun : (execOp a.eval o).run P Λ.w = .ok .skip (setMap Λ.w b (ents.modify i fun e => { e with key := kv kag cs, val := a.eval v }) clock) := by
        rw [hm] at hf
        simp only [h5, Option.map] at hf
        simp only [execOp, hop, hex, ek]
        simp only [Instr.mapUpdate, Sem.run_bind, run_underlying hu, MapKept.run_getObj_map hh, Result.andThen_ok, check_run KT hko, hf, h5, Option.map, Option.getD, hek, stays_run KT hko, MapKept.run_setObj_map _ hh]
        rfl
      unfold Oper.wp
      rw [hrun]
      simp only [h4] at hnext
      obtain ⟨g1, g2, g3⟩ := map_write (v := .top) (rd := true) hr.s hql hb hh ((hM.set (i := i) hka hv1).forget)
      exact hnext undef _ g1 rfl g2 .top (fun k h _ _ => g3 k h)
    | none =>
      obtain ⟨_, h4, _⟩ := mfind_none hm
      have hrun : (execOp a.eval o).run P Λ.w = .ok .skip (setMap Λ.w b (ents.push { key := kv kag cs, val := a.eval v, born := clock }) (clock + 1)) := by
        rw [hm] at hf
        simp only [execOp, hop, hex, ek]
        simp only [Instr.mapUpdate, Sem.run_bind, run_underlying hu, MapKept.run_getObj_map hh, Result.andThen_ok, check_run KT hko, hf, MapKept.run_setObj_map _ hh]
        rfl
      unfold Oper.wp
      rw [hrun]
      simp only [h4] at hnext
      obtain ⟨g1, g2, g3⟩ := map_write (v := .top) (rd := true) hr.s hql hb hh (hM.push (sx' := none) hka hv1 (fun _ _ h => by cases h))
      exact hnext undef _ g1 rfl g2 .top (fun k h _ _ => g3 k h)

theorem o_mdel {ty kt et : TypeId} {x k : Operand} {args : Array Operand} {ats : Array TypeId} {ks : List KSh} {kag : Bool} {x' k' : Ar} {q : Nat} {cs : List T} {es : List (List T × V)} {sx : Option (Nat × List Nat)} (hop : o.op = .call { callee := .builtin .delete, args := args, argTypes := ats }) (ha : args.toList = [x, k]) (hat : ats[0]? = some ty)
    (hu : P.underlying ty = some (.map kt et)) (hK : keySh P kt = some (ks, kag)) (hx : opA x = some x') (hk : opA k = some k') (hxv : x'.u st = .mp q) (hkc : keyC ks kag (k'.u st) = some cs) (hes : aget st.s.sto q = some (.map kag es sx)) (hok : keysOk ks es = true) :
    OSound P o base st { v := .top, ob := [(q, .map kag (mdrop cs es) (sdrop (mfind cs es) sx))], rd := true } := by
  intro C Λ a next Q hC hr _ _ hnext
  have hx1 := hr.opu hx
  obtain ⟨ek, hko⟩ := key_val (hr.opu hk) hkc
  have KT : KeyT P kt ks kag := ⟨hK⟩
  have haa : args = #[x, k] := by apply Array.ext'; simpa using ha
  subst haa
  rw [hxv] at hx1
  generalize hex : a.eval x = u at hx1
  cases hx1 with
  | @mp b _ hql hb =>
    obtain ⟨ents, clock, hh, hM⟩ := hr.s.objMap hes hb
    have hf := find_run KT hko hM.size (hM.keyed hok) hok Λ.w
    cases hm : mfind cs es with
    | some i =>
      obtain ⟨e, h1, _, _, _, h4⟩ := mfind_at hm
      obtain ⟨en, h5, h6⟩ := hM.val h1
      have hrun : (execOp a.eval o).run P Λ.w = .ok (.value (.tuple #[])) (setMap Λ.w b (ents.eraseIdxIfInBounds i) clock) := by
        rw [hm] at hf
        simp only [h5, Option.map] at hf
        simp only [execOp, hop, resolve, invoke, builtin, List.map_toArray, List.map_cons, List.map_nil, hex, ek]
        simp [Builtin.delete_, hat, run_underlying hu, MapKept.run_getObj_map hh, check_run KT hko, hf, MapKept.run_setObj_map _ hh]
        rfl
      unfold Oper.wp
      rw [hrun]
      simp only [h4, hm] at hnext
      obtain ⟨g1, g2, g3⟩ := map_write (v := .top) (rd := true) hr.s hql hb hh (hM.erase i)
      exact hnext _ _ g1 rfl g2 .top (fun k h _ _ => g3 k h)
    | none =>
      obtain ⟨_, _, h4⟩ := mfind_none hm
      have hrun : (execOp a.eval o).run P Λ.w = .ok (.value (.tuple #[])) (setMap Λ.w b ents clock) := by
        rw [hm] at hf
        simp only [execOp, hop, resolve, invoke, builtin, List.map_toArray, List.map_cons, List.map_nil, hex, ek]
        simp [Builtin.delete_, hat, run_underlying hu, MapKept.run_getObj_map hh, check_run KT hko, hf, MapKept.run_setObj_map _ hh]
        rfl
      unfold Oper.wp
      rw [hrun]
      simp only [h4, hm, show sdrop none sx = sx from by cases sx <;> rfl] at hnext
      obtain ⟨g1, g2, g3⟩ := map_write (v := .top) (rd := true) hr.s hql hb hh hM
      exact hnext _ _ g1 rfl g2 .top (fun k h _ _ => g3 k h)

theorem RepM.empty {Λ : L} {kag : Bool} {clock : Nat} {sx : Option (Nat × List Nat)} (h : ∀ c bs, sx = some (c, bs) → clock = c ∧ bs = []) : RepM Λ kag #[] clock [] sx :=
  ⟨rfl, by simp, by simp, by simp, fun c bs hs => by obtain ⟨h1, h2⟩ := h c bs hs; exact ⟨h1, h2.symm⟩⟩

theorem o_mclr {ty kt et : TypeId} {x : Operand} {args : Array Operand} {ats : Array TypeId} {kag : Bool} {x' : Ar} {q : Nat} {es : List (List T × V)} {sx : Option (Nat × List Nat)} (hop : o.op = .call { callee := .builtin .clear, args := args, argTypes := ats }) (ha : args.toList = [x]) (hat : ats[0]? = some ty)
    (hu : P.underlying ty = some (.map kt et)) (hx : opA x = some x') (hxv : x'.u st = .mp q) (hes : aget st.s.sto q = some (.map kag es sx)) :
    OSound P o base st { v := .top, ob := [(q, .map kag [] none)], rd := true } := by
  intro C Λ a next Q hC hr _ _ hnext
  have hx1 := hr.opu hx
  have haa : args = #[x] := by apply Array.ext'; simpa using ha
  subst haa
  rw [hxv] at hx1
  generalize hex : a.eval x = u at hx1
  cases hx1 with
  | @mp b _ hql hb =>
    obtain ⟨ents, clock, hh, hM⟩ := hr.s.objMap hes hb
    have hrun : (execOp a.eval o).run P Λ.w = .ok (.value (.tuple #[])) (setMap Λ.w b #[] clock) := by
      simp only [execOp, hop, resolve, invoke, builtin, List.map_toArray, List.map_cons, List.map_nil, hex]
      simp [Builtin.clear_, hat, run_underlying hu, MapKept.run_getObj_map hh, MapKept.run_setObj_map _ hh]
      rfl
    unfold Oper.wp
    rw [hrun]
    obtain ⟨g1, g2, g3⟩ := map_write (v := .top) (rd := true) hr.s hql hb hh (RepM.empty (kag := kag) (clock := clock) (sx := none) (fun _ _ h => by cases h))
    exact hnext _ _ g1 rfl g2 .top (fun k h _ _ => g3 k h)

theorem o_mkmap {t : TypeId} {kag : Bool} (hop : o.op = .makeMap t none) : OSound P o base st { v := .mp base, ob := [(base, .map kag [] (some (0, [])))], n := 1 } := by
  intro C Λ a next Q hC hr hle hfree hnext
  have hrun : (execOp a.eval o).run P Λ.w = .ok (.value (.map (some Λ.w.heap.size))) (Λ.w.alloc (.map #[] 0)) := by
    simp only [execOp, hop]
    simp [Instr.makeMap]
  unfold Oper.wp
  rw [hrun]
  obtain ⟨hb1, hb2, hb3⟩ := hfree base (Nat.le_refl _) (by simp)
  have g := Grew.alloc Λ.w (.map #[] 0)
  have hkp := Kp.new g hr.s.new (.obj base)
  obtain ⟨k1, k2, k3⟩ := new_obj hr.s g hb1 hb2 rfl (ao := .map kag [] (some (0, []))) ⟨Λ.w.heap.size, _, _, by simp [relab_same], g.top, RepM.empty (fun c bs h => by simp at h; exact ⟨h.1, h.2⟩)⟩
  exact hnext _ _ k1 rfl k2 (.mp hb1 (by simp [relab_same])) (fun k hk _ hlt => k3 k hk (by simp at hlt; omega))

theorem o_lenm {ty kt et : TypeId} {x : Operand} {args : Array Operand} {ats : Array TypeId} {x' : Ar} {n : Nat} (hop : o.op = .call { callee := .builtin .len, args := args, argTypes := ats }) (ha : args[0]? = some x) (hat : ats[0]? = some ty)
    (hu : P.underlying ty = some (.map kt et)) (hx : opA x = some x') (hxv : (x'.u st = .t .nilm ∧ n = 0) ∨ ∃ q kag es sx, x'.u st = .mp q ∧ aget st.s.sto q = some (.map kag es sx) ∧ n = es.length) :
    OSound P o base st { v := .t (.int .i64 n), rd := true } := by
  intro C Λ a next Q hC hr _ _ hnext
  have hx1 := hr.opu hx
  have hrun : (execOp a.eval o).run P Λ.w = .ok (.value (.int .i64 n)) Λ.w := by
    rcases hxv with ⟨h1, rfl⟩ | ⟨q, kag, es, sx, h1, h2, rfl⟩
    · rw [h1] at hx1
      have : a.eval x = .map none := by generalize a.eval x = u at hx1; cases hx1 with | t h => cases h; rfl
      have hax : (args.map a.eval)[0]? = some (.map none) := by simp [ha, this]
      simp only [execOp, hop, resolve, Sem.run_bind, Sem.run_pure, Result.andThen_ok, invoke, builtin]
      simp [Builtin.len_, hat, hax, run_underlying hu, goInt]
    · rw [h1] at hx1
      generalize hex : a.eval x = u at hx1
      cases hx1 with
      | @mp b _ hql hb =>
        obtain ⟨ents, clock, hh, hM⟩ := hr.s.objMap h2 hb
        have hax : (args.map a.eval)[0]? = some (.map (some b)) := by simp [ha, hex]
        simp only [execOp, hop, resolve, Sem.run_bind, Sem.run_pure, Result.andThen_ok, invoke, builtin]
        simp [Builtin.len_, hat, hax, run_underlying hu, goInt, MapKept.run_getObj_map hh, hM.size]
  unfold Oper.wp
  rw [hrun]
  exact hnext _ Λ (Kp.refl _) rfl hr.s (.t (.int _ _)) (fun _ h _ _ => h)

theorem o_ment {t kt et : TypeId} {x k : Operand} {ks : List KSh} {kag : Bool} {zv : V} {x' k' : Ar} {q c : Nat} {bs : List Nat} {cs : List T} {es : List (List T × V)} (hop : o.op = .mapEntry t x k) (hu : P.underlying t = some (.map kt et)) (hK : keySh P kt = some (ks, kag)) (hz : zeroOne P et = some zv)
    (hx : opA x = some x') (hk : opA k = some k') (hxv : x'.u st = .mp q) (hkc : keyC ks kag (k'.u st) = some cs) (hes : aget st.s.sto q = some (.map kag es (some (c, bs)))) (hok : keysOk ks es = true) :
    (∀ i e b, mfind cs es = some i → es[i]? = some e → bs[i]? = some b → OSound P o base st { v := .tup [e.2, .t (.int .i64 b)], ob := [(q, .map kag es (some (c, bs)))], rd := true }) ∧
    (mfind cs es = none → OSound P o base st { v := .tup [zv, .t (.int .i64 c)], ob := [(q, .map kag (es ++ [(cs, zv)]) (some (c + 1, bs ++ [c])))], rd := true }) := by
  have KT : KeyT P kt ks kag := ⟨hK⟩
  refine ⟨fun i e bb hm he hbb => ?_, fun hm => ?_⟩
  · intro C Λ a next Q hC hr _ _ hnext
    have hx1 := hr.opu hx
    obtain ⟨ek, hko⟩ := key_val (hr.opu hk) hkc
    rw [hxv] at hx1
    generalize hex : a.eval x = u at hx1
    cases hx1 with
    | @mp b _ hql hb =>
      obtain ⟨ents, clock, hh, hM⟩ := hr.s.objMap hes hb
      have hf := find_run KT hko hM.size (hM.keyed hok) hok Λ.w
      have hka : RepA Λ.lab Λ.w kag (kv kag cs) cs := kv_repA hko fun h => by subst h; obtain ⟨s, rfl⟩ := keyT_one KT; obtain ⟨x, e, _⟩ := keyOk_one hko; exact ⟨x, e⟩
      obtain ⟨e', h1, h2, h3, h4, _⟩ := mfind_at hm
      rw [he] at h1; simp at h1; subst h1
      obtain ⟨en, h5, h6⟩ := hM.val he
      have hek : en.key = kv kag cs := by
        have := hM.keyed hok i en e h5 he
        have hko' : keyOk ks e.1 = true := by unfold keysOk at hok; rw [List.all_eq_true] at hok; exact hok e (List.mem_of_getElem? he)
        rw [this, keyEq_eq hko hko' h2]
      have hbn : en.born = bb := by
        obtain ⟨_, e2⟩ := hM.known c bs rfl
        rw [← e2, List.getElem?_map] at hbb
        have : ents.toList[i]? = ents[i]? := Array.getElem?_toList
        rw [this, h5] at hbb
        simpa using hbb
      have hcs : cs = e.1 := by
        have hko' : keyOk ks e.1 = true := by unfold keysOk at hok; rw [List.all_eq_true] at hok; exact hok e (List.mem_of_getElem? he)
        exact keyEq_eq hko hko' h2
      have hrun : (execOp a.eval o).run P Λ.w = .ok (.value (.tuple #[en.val, .int .i64 bb])) (setMap Λ.w b (ents.modify i fun e => { e with key := kv kag cs }) clock) := by
        rw [hm] at hf
        simp only [h5, Option.map] at hf
        simp only [execOp, hop, hex, ek]
        simp only [Instr.mapEntry, Sem.run_bind, run_underlying hu, MapKept.run_getObj_map hh, Result.andThen_ok, check_run KT hko, hf, h5, Option.map, Option.getD, hek, stays_run KT hko, MapKept.run_setObj_map _ hh, hbn]
        rfl
      have hmod : (ents.modify i fun e => { e with key := kv kag cs }) = ents.modify i fun e => { e with key := kv kag cs, val := en.val } := by
        apply Array.ext'
        apply List.ext_getElem?
        intro j
        rw [Array.getElem?_toList, Array.getElem?_toList, Array.getElem?_modify, Array.getElem?_modify]
        split
        · rename_i hij; subst hij; rw [h5]; simp
        · rfl
      have hM2 := hM.set (i := i) hka h6
      have hes2 : es.set i (cs, e.2) = es := by
        rw [hcs]
        apply List.ext_getElem?
        intro j
        rw [List.getElem?_set]
        split
        · rename_i hij; subst hij
          rw [he]; simp; exact (List.getElem?_eq_some_iff.1 he).1
        · rfl
      rw [hes2, ← hmod] at hM2
      unfold Oper.wp
      rw [hrun]
      obtain ⟨g1, g2, g3⟩ := map_write (v := .tup [e.2, .t (.int .i64 bb)]) (rd := true) hr.s hql hb hh hM2
      refine hnext _ _ g1 rfl g2 (.tup rfl fun j u d hu hd => ?_) (fun k h _ _ => g3 k h)
      match j, hu, hd with
      | 0, hu, hd => simp at hu hd; subst hu; subst hd; exact h6.mono g1
      | 1, hu, hd => simp at hu hd; subst hu; subst hd; exact .t (.int _ _)
  · intro C Λ a next Q hC hr _ _ hnext
    have hx1 := hr.opu hx
    obtain ⟨ek, hko⟩ := key_val (hr.opu hk) hkc
    rw [hxv] at hx1
    generalize hex : a.eval x = u at hx1
    cases hx1 with
    | @mp b _ hql hb =>
      obtain ⟨ents, clock, hh, hM⟩ := hr.s.objMap hes hb
      have hf := find_run KT hko hM.size (hM.keyed hok) hok Λ.w
      have hka : RepA Λ.lab Λ.w kag (kv kag cs) cs := kv_repA hko fun h => by subst h; obtain ⟨s, rfl⟩ := keyT_one KT; obtain ⟨x, e, _⟩ := keyOk_one hko; exact ⟨x, e⟩
      obtain ⟨z, hz1, hz2⟩ := zeroOne_run hz Λ.w
      have hcl : clock = c := (hM.known c bs rfl).1
      subst hcl
      have hrun : (execOp a.eval o).run P Λ.w = .ok (.value (.tuple #[z, .int .i64 clock])) (setMap Λ.w b (ents.push { key := kv kag cs, val := z, born := clock }) (clock + 1)) := by
        rw [hm] at hf
        simp only [execOp, hop, hex, ek]
        simp only [Instr.mapEntry, Sem.run_bind, run_underlying hu, MapKept.run_getObj_map hh, Result.andThen_ok, check_run KT hko, hf, hz1, MapKept.run_setObj_map _ hh]
        rfl
      unfold Oper.wp
      rw [hrun]
      obtain ⟨g1, g2, g3⟩ := map_write (v := .tup [zv, .t (.int .i64 clock)]) (rd := true) hr.s hql hb hh (hM.push (sx' := some (clock + 1, bs ++ [clock])) hka (hz2 Λ) (fun c' bs' h => by simp at h; exact ⟨clock, bs, rfl, h.1.symm, h.2.symm⟩))
      refine hnext _ _ g1 rfl g2 (.tup rfl fun j u d hu hd => ?_) (fun k h _ _ => g3 k h)
      match j, hu, hd with
      | 0, hu, hd => simp at hu hd; subst hu; subst hd; exact (hz2 Λ).mono g1
      | 1, hu, hd => simp at hu hd; subst hu; subst hd; exact .t (.int _ _)

theorem findIdx_arr' {α : Type} (xs : Array α) (p : α → Bool) : xs.findIdx? p = xs.toList.findIdx? p := by
  obtain ⟨l⟩ := xs
  simp

theorem o_ests {t : TypeId} {x s v : Operand} {x' s' v' : Ar} {q c i : Nat} {bs : List Nat} {z : Int} {kd : IntKind} {kag : Bool} {es : List (List T × V)} (hop : o.op = .entryStore t x s v) (hx : opA x = some x') (hs : opA s = some s') (hv : opA v = some v') (hxv : x'.u st = .mp q) (hsv : s'.u st = .t (.int kd z))
    (hes : aget st.s.sto q = some (.map kag es (some (c, bs)))) (hi : bs.findIdx? (fun b : Nat => decide (((b : Nat) : Int) = z)) = some i) :
    OSound P o base st { v := .top, ob := [(q, .map kag (es.modify i fun e => (e.1, v'.u st)) (some (c, bs)))], rd := true } := by
  intro C Λ a next Q hC hr _ _ hnext
  have hx1 := hr.opu hx
  have hs1 := hr.opu hs
  have hv1 := hr.opu hv
  rw [hsv] at hs1
  have es1 := hs1.repT.int_inv
  rw [hxv] at hx1
  generalize hex : a.eval x = u at hx1
  cases hx1 with
  | @mp b _ hql hb =>
    obtain ⟨ents, clock, hh, hM⟩ := hr.s.objMap hes hb
    obtain ⟨e1, e2⟩ := hM.known c bs rfl
    have hfi : ents.findIdx? (fun e => (e.born : Int) == z) = some i := by
      rw [findIdx_arr', ← hi, ← e2, List.findIdx?_map]
      congr 1
    have hlt : i < ents.size := by
      have := (Array.findIdx?_eq_some_iff_findIdx_eq.1 hfi).1
      exact this
    have hen : ents[i]? = some ents[i] := by simp [hlt]
    have hle : i < es.length := by rw [← hM.size]; exact hlt
    have hee : es[i]? = some es[i] := by simp [hle]
    have hka := (hM.at_ i _ _ hen hee).1
    have hrun : (execOp a.eval o).run P Λ.w = .ok .skip (setMap Λ.w b (ents.modify i fun e => { e with val := a.eval v }) clock) := by
      simp only [execOp, hop, hex, es1]
      have hz : (asInt (.int kd z)).run P Λ.w = .ok z Λ.w := by simp [asInt, asIntOf]
      simp only [Instr.entryStore, Sem.run_bind, MapKept.run_getObj_map hh, Result.andThen_ok, hz, hfi, MapKept.run_setObj_map _ hh, Sem.run_pure]
      rfl
    have hmod : (ents.modify i fun e => { e with val := a.eval v }) = ents.modify i fun e => { e with key := ents[i].key, val := a.eval v } := by
      apply Array.ext'
      apply List.ext_getElem?
      intro j
      rw [Array.getElem?_toList, Array.getElem?_toList, Array.getElem?_modify, Array.getElem?_modify]
      split
      · rename_i hij; subst hij; rw [hen]; simp
      · rfl
    have hes2 : (es.modify i fun e => (e.1, v'.u st)) = es.set i (es[i].1, v'.u st) := by
      apply List.ext_getElem?
      intro j
      rw [List.getElem?_modify, List.getElem?_set]
      split
      · rename_i hij; subst hij; rw [hee]; simp
      · simp
    have hM2 := hM.set (i := i) hka hv1
    rw [← hmod, ← hes2] at hM2
    unfold Oper.wp
    rw [hrun]
    obtain ⟨g1, g2, g3⟩ := map_write (v := .top) (rd := true) hr.s hql hb hh hM2
    exact hnext undef _ g1 rfl g2 .top (fun k h _ _ => g3 k h)

end
end Go.GB


/-
  GbMr: ranging over maps: the iterator, and the entry at hand.
-/
namespace Go.GB

theorem entAt_spec {z : Nat} {e : List T × V} : ∀ {es : List (List T × V)} {bs : List Nat}, entAt z es bs = some e → ∃ i : Nat, es[i]? = some e ∧ bs[i]? = some z
  | [], bs, h => by simp [entAt] at h
  | x :: r, [], h => by simp [entAt] at h
  | x :: r, b :: bs, h => by
    simp only [entAt] at h
    split at h
    · rename_i hb; simp at h; subst h; exact ⟨0, rfl, by simp [hb]⟩
    · obtain ⟨i, h1, h2⟩ := entAt_spec h
      exact ⟨i + 1, by simpa using h1, by simpa using h2⟩
theorem RepA.keyV {Λ : L} {kag : Bool} {v : Value} {cs : List T} (h : RepA Λ.lab Λ.w kag v cs) : RelV Λ v (keyV kag cs) := by
  unfold RepA at h
  unfold Go.GB.keyV
  cases kag with
  | true =>
    obtain ⟨vs, rfl, hs, hv⟩ := h
    simp only [if_true]
    refine .agg (by simpa using hs) fun j u c a b => ?_
    rw [List.getElem?_map, Option.map_eq_some_iff] at b
    obtain ⟨x, b1, rfl⟩ := b
    exact .t (hv j u x a b1)
  | false =>
    obtain ⟨x, rfl, hv⟩ := h
    exact .t hv
theorem toArray_last {l : List Nat} {z : Nat} (h : l.getLast? = some z) : ∃ a : Array Nat, l.toArray = a.push z := by
  have hne : l ≠ [] := by intro e; subst e; simp at h
  refine ⟨l.dropLast.toArray, ?_⟩
  have h2 : l.getLast hne = z := by rw [List.getLast?_eq_some_getLast hne] at h; simpa using h
  rw [List.push_toArray, ← h2, List.dropLast_concat_getLast hne]

section
variable {P : Program} {o : Oper} {st : St} {base : Nat}

theorem e_ient {gc : Bool} {x : Operand} {x' : Ar} {v : V} {ps : List Bool} (hop : o.op = .entry x) (hx : opA x = some x') (he : evalN gc st (.ient x') = some (v, ps)) (hp : ∀ q ∈ ps, q) : ESound P o gc st v := by
  intro C Λ a hC hg hr
  simp only [evalN] at he
  generalize h1 : rd gc st x' = rx at he
  obtain ⟨vx, p1⟩ := rx
  split at he
  · rename_i k p hk
    simp only [Prod.mk.injEq] at hk
    obtain ⟨rfl, rfl⟩ := hk
    split at he
    · rename_i q s seen c hit
      split at he
      · rename_i kag es c' bs z hes hz
        split at he
        · rename_i e hent
          simp only [Option.some.injEq, Prod.mk.injEq] at he
          obtain ⟨rfl, rfl⟩ := he
          have hxv : RelV Λ (a.eval x) (.ptr k 0) := rd_sound hr hx h1 (fun q hq => hp q (by simp [hq])) hg
          have hcc : c' = c := by have := hp (decide (c' = c)) (by simp); simpa using this
          have hnd : bs.Nodup := by have := hp (decide bs.Nodup) (by simp); simpa using this
          subst hcc
          obtain ⟨b, bm, e1, e2, e3, e4⟩ := (hr.s.sto k _ hit).2
          obtain ⟨ents, clock, hh, hM⟩ := hr.s.objMap hes e3
          obtain ⟨k1, k2⟩ := hM.known c' bs rfl
          obtain ⟨i, g1, g2⟩ := entAt_spec hent
          obtain ⟨seen', hs'⟩ := toArray_last hz
          have hil : i < ents.size := by rw [hM.size]; exact (List.getElem?_eq_some_iff.1 g1).1
          have hen : ents[i]? = some ents[i] := by simp [hil]
          have hborn : ents[i].born = z := by
            rw [← k2, List.getElem?_map] at g2
            have : ents.toList[i]? = ents[i]? := Array.getElem?_toList
            rw [this, hen] at g2
            simpa using g2
          have hmem : ents[i] ∈ ents.toList := by simp
          rw [hs', ← hborn, ← k1] at e2
          have hrun := run_entry_at (P := P) Λ.w b bm s seen' ents clock ents[i] e2 hh hmem (by rw [k2]; exact hnd)
          generalize hex : a.eval x = u at hxv
          cases hxv with
          | @ptr b' _ _ hkl hb' =>
            obtain rfl := hr.s.inj b' b k hb' e1
            refine ⟨.tuple #[ents[i].key, ents[i].val], ?_, ?_⟩
            · simp only [execOp, hop, hex]
              simp only [Sem.run_bind, hrun, Result.andThen_ok, Sem.run_pure]
            · obtain ⟨q1, q2⟩ := hM.at_ i _ _ hen g1
              refine .tup rfl fun j u c hj hc => ?_
              match j, hj, hc with
              | 0, hj, hc => simp at hj hc; subst hj; subst hc; exact q1.keyV
              | 1, hj, hc => simp at hj hc; subst hj; subst hc; exact q2
        · cases he
      · cases he
    · cases he
  · cases he

theorem o_mrange {t kt et : TypeId} {x : Operand} {x' : Ar} {q c : Nat} {bs : List Nat} {kag : Bool} {es : List (List T × V)} (hop : o.op = .range t x) (hu : P.underlying t = some (.map kt et)) (hx : opA x = some x') (hxv : x'.u st = .mp q)
    (hes : aget st.s.sto q = some (.map kag es (some (c, bs)))) : OSound P o base st { v := .ptr base 0, ob := [(base, .iter q c [] c)], n := 1, rd := true } := by
  intro C Λ a next Q hC hr hle hfree hnext
  have hx1 := hr.opu hx
  rw [hxv] at hx1
  generalize hex : a.eval x = u at hx1
  cases hx1 with
  | @mp b _ hql hb =>
    obtain ⟨ents, clock, hh, hM⟩ := hr.s.objMap hes hb
    obtain ⟨rfl, _⟩ := hM.known c bs rfl
    have hrun : (execOp a.eval o).run P Λ.w = .ok (.value (.pointer (some ⟨Λ.w.heap.size, 0, none⟩))) (Λ.w.alloc (.mapIter (some b) clock #[] clock)) := by
      simp only [execOp, hop, hex]
      simp only [Sem.run_bind, run_range_map Λ.w t kt et b ents clock hu hh, Result.andThen_ok, Sem.run_pure]
    unfold Oper.wp
    rw [hrun]
    obtain ⟨hb1, hb2, hb3⟩ := hfree base (Nat.le_refl _) (by simp)
    have g := Grew.alloc Λ.w (.mapIter (some b) clock #[] clock)
    have hne : b ≠ Λ.w.heap.size := Nat.ne_of_lt (heap_lt hh)
    obtain ⟨k1, k2, k3⟩ := new_obj hr.s g hb1 hb2 rfl (ao := .iter q clock [] clock) ⟨Λ.w.heap.size, b, by simp [relab_same], g.top, by simp only; rw [relab_ne hne]; exact hb, hql⟩
    exact hnext _ _ k1 rfl k2 (.ptr hb1 (by simp [relab_same])) (fun k hk _ hlt => k3 k hk (by rcases hlt with h | h <;> simp at h <;> omega))
end
end Go.GB


/-
  GbP: calls; every operation does what its evaluation says, guards included.
-/
namespace Go.GB
section
variable {P : Program} {ops : Array Oper} {o : Oper} {base : Nat} {st : St}

theorem mapM_opA : ∀ (xs : List Operand) (ys : List Ar), xs.mapM opA = some ys → xs.length = ys.length ∧ ∀ (j : Nat) (x : Operand) (y : Ar), xs[j]? = some x → ys[j]? = some y → opA x = some y := by
  intro xs
  induction xs with
  | nil => intro c h; simp at h; subst h; simp
  | cons d cs ih =>
    intro c h
    simp only [List.mapM_cons, Option.bind_eq_bind, Option.pure_def, Option.bind_eq_some_iff] at h
    obtain ⟨y, hy, c', hc', h⟩ := h
    simp at h; subst h
    obtain ⟨i1, i2⟩ := ih c' hc'
    refine ⟨by simp [i1], fun j e z h1 h2 => ?_⟩
    cases j with
    | zero => simp at h1 h2; subst h1; subst h2; exact hy
    | succ j => exact i2 j e z (by simpa using h1) (by simpa using h2)

theorem argsV_get : ∀ (xs : List Ar) (j : Nat), (argsV st xs)[j]? = (xs[j]?).map (Ar.u st)
  | [], j => by simp [argsV]
  | x :: r, 0 => by simp [argsV]
  | x :: r, j + 1 => by simp [argsV, argsV_get r j]
theorem argsV_len : ∀ (xs : List Ar), (argsV st xs).length = xs.length
  | [] => rfl
  | x :: r => by simp [argsV, argsV_len r]
theorem capsV_get : ∀ (xs : List (Nat × Nat)) (j : Nat), (capsV xs)[j]? = (xs[j]?).map fun c => V.ptr c.1 c.2
  | [], j => by simp [capsV]
  | x :: r, 0 => by simp [capsV]
  | x :: r, j + 1 => by simp [capsV, capsV_get r j]
theorem capsV_len : ∀ (xs : List (Nat × Nat)), (capsV xs).length = xs.length
  | [] => rfl
  | x :: r => by simp [capsV, capsV_len r]

theorem rel_args {C : Ctx} {Λ : L} {a : Act} (hr : Rel C Λ st a) {args : Array Operand} {args' : List Ar} (h : args.toList.mapM opA = some args') :
    (args.map a.eval).size = (argsV st args').length ∧ ∀ (j : Nat) (v : Value) (x : V), (args.map a.eval)[j]? = some v → (argsV st args')[j]? = some x → RelV Λ v x := by
  obtain ⟨h1, h2⟩ := mapM_opA _ _ h
  refine ⟨by simp [argsV_len]; simpa using h1, fun j v x hv hx => ?_⟩
  rw [argsV_get, Option.map_eq_some_iff] at hx
  obtain ⟨y, hy, rfl⟩ := hx
  rw [Array.getElem?_map, Option.map_eq_some_iff] at hv
  obtain ⟨z, hz, rfl⟩ := hv
  exact hr.opu (h2 j z y (by simpa using hz) hy)

theorem o_enter {f : FuncId} {vs : List V} {out : Out} (hf : FnAt P f vs base st.s.sto out)
    (hrun : ∀ (C : Ctx) (Λ : L) (a : Act), Rel C Λ st a → ∃ args : Array Value, (execOp a.eval o).run P Λ.w = .ok (.enter f args) Λ.w ∧ args.size = vs.length ∧ ∀ (j : Nat) (v : Value) (x : V), args[j]? = some v → vs[j]? = some x → RelV Λ v x) :
    OSound P o base st out := by
  intro C Λ a next Q hC hr hle hfree hnext
  obtain ⟨args, h1, h2, h3⟩ := hrun C Λ a hr
  unfold Oper.wp
  rw [h1]
  refine (hf.2.2 Λ args ⟨hr.s.sto, hr.s.inj, hr.s.new, hr.s.bnd, hr.s.frz⟩ hle hfree h2 h3).mono fun e w' h => ?_
  obtain ⟨v, Λ', rfl, rfl, k1, k2, k3, k4, k5⟩ := h
  exact hnext v Λ' k1 k2 ⟨k3.sto, k3.inj, k3.new, k3.bnd, k3.frz⟩ k4 k5

theorem o_call {f : FuncId} {args : Array Operand} {ats : Array TypeId} {args' : List Ar} {out : Out} (ho : o.op = .call { callee := .value (.func f), args := args, argTypes := ats }) (ha : args.toList.mapM opA = some args')
    (hf : FnAt P f (argsV st args') base st.s.sto out) : OSound P o base st out := by
  refine o_enter hf fun C Λ a hr => ?_
  obtain ⟨h1, h2⟩ := rel_args hr ha
  refine ⟨args.map a.eval, ?_, h1, h2⟩
  have hb := hf.1 (args.map a.eval) Λ.w
  simp only [execOp, ho, resolve, Act.eval, Deferred.ofValue, Sem.run_bind, Sem.run_pure, Result.andThen_ok, invoke]
  simpa using hb

theorem o_callv {f : FuncId} {t : Nat} {args : Array Operand} {ats : Array TypeId} {args' : List Ar} {caps : List (Nat × Nat)} {out : Out} (ho : o.op = .call { callee := .value (.tmp t), args := args, argTypes := ats }) (ha : args.toList.mapM opA = some args')
    (hv : (look st.env t).ug = .fn f caps) (hf : FnAt P f (argsV st args' ++ capsV caps) base st.s.sto out) : OSound P o base st out := by
  refine o_enter hf fun C Λ a hr => ?_
  obtain ⟨h1, h2⟩ := rel_args hr ha
  have ht := (hr.env t).ug
  rw [hv] at ht
  generalize he : a.tmps.getD t undef = u at ht
  cases ht with
  | @fn _ vs _ hs hc =>
    refine ⟨args.map a.eval ++ vs, ?_, by simp [argsV_len, capsV_len] at h1 ⊢; omega, fun j v x hj hx => ?_⟩
    · have hb := hf.1 (args.map a.eval ++ vs) Λ.w
      have he' : a.eval (.tmp t) = .func (.func f) #[] vs := he
      simp only [execOp, ho, resolve, he', Deferred.ofValue, Sem.run_bind, Sem.run_pure, Result.andThen_ok, invoke]
      simpa using hb
    · by_cases hjl : j < (args.map a.eval).size
      · rw [Array.getElem?_append_left hjl] at hj
        rw [List.getElem?_append_left (by omega)] at hx
        exact h2 j v x hj hx
      · rw [Array.getElem?_append_right (by omega)] at hj
        rw [List.getElem?_append_right (by omega), capsV_get, Option.map_eq_some_iff] at hx
        obtain ⟨c, hc1, rfl⟩ := hx
        rw [← h1] at hc1
        obtain ⟨b, e1, e2, e3⟩ := hc _ v c hj hc1
        subst e1
        exact .ptr e3 e2

theorem o_callv0 {f : FuncId} {t : Nat} {args : Array Operand} {ats : Array TypeId} {args' : List Ar} {out : Out} (ho : o.op = .call { callee := .value (.tmp t), args := args, argTypes := ats }) (ha : args.toList.mapM opA = some args')
    (hv : (look st.env t).ug = .t (.fn f)) (hf : FnAt P f (argsV st args') base st.s.sto out) : OSound P o base st out := by
  refine o_enter hf fun C Λ a hr => ?_
  obtain ⟨h1, h2⟩ := rel_args hr ha
  have ht := (hr.env t).ug
  rw [hv] at ht
  have he : a.tmps.getD t undef = .func (.func f) #[] #[] := by
    have := ht.repT
    generalize a.tmps.getD t undef = u at this
    cases this; rfl
  refine ⟨args.map a.eval, ?_, h1, h2⟩
  have hb := hf.1 (args.map a.eval) Λ.w
  have he' : a.eval (.tmp t) = .func (.func f) #[] #[] := he
  simp only [execOp, ho, resolve, he', Deferred.ofValue, Sem.run_bind, Sem.run_pure, Result.andThen_ok, invoke]
  simpa using hb

theorem pall_mem : ∀ {ps : List Bool}, pall ps → ∀ q ∈ ps, q = true
  | [], _, q, h => by simp at h
  | p :: r, h, q, hq => by
    simp only [pall] at h
    cases List.mem_cons.1 hq with
    | inl e => subst e; exact h.1
    | inr e => exact pall_mem h.2 q e

/-- one out of an evaluation -/
theorem evX_step {K : Out → Prop} {aop : AOp} (h : evX P base st K aop) : ∃ out, evX P base st (· = out) aop ∧ K out := by
  unfold evX at h
  split at h
  · split at h
    · split at h
      · split at h
        · rename_i h1 _ _ h2 _ _ h3; refine ⟨_, ?_, h.2⟩; simp only [evX, h1, h2, h3]; exact ⟨h.1, by simp⟩
        · exact h.elim
      · exact h.elim
    · exact h.elim
  · split at h
    · rename_i h1; refine ⟨_, ?_, h.2⟩; simp only [evX, h1]; exact ⟨h.1, by simp⟩
    · exact h.elim
  · exact ⟨_, by simp only [evX], h⟩
  · split at h
    · rename_i ow _ _ _ _ xs h1
      cases ow
      · refine ⟨_, ?_, h.2⟩; simp only [evX, h1]; exact ⟨h.1, by simp⟩
      · obtain ⟨h2, h | h⟩ := h
        · cases xs with
          | nil => refine ⟨_, ?_, h⟩; simp only [evX, h1]; exact ⟨h2, by simp⟩
          | cons y ys => refine ⟨_, ?_, h⟩; simp only [evX, h1]; exact ⟨h2, .inl (by simp)⟩
        · refine ⟨_, ?_, h⟩; simp only [evX, h1]; exact ⟨h2, .inr (by trivial)⟩
    · exact h.elim
  · split at h
    · split at h
      · rename_i h1 _ h2; refine ⟨_, ?_, h.2.2.2⟩; simp only [evX, h1, h2]; exact ⟨h.1, h.2.1, h.2.2.1, by simp⟩
      · split at h
        · rename_i h1 _ _ _ _ h2 _ _ h3; refine ⟨_, ?_, h.2.2.2.2.2⟩; simp only [evX, h1, h2, h3]; exact ⟨h.1, h.2.1, h.2.2.1, h.2.2.2.1, h.2.2.2.2.1, by simp⟩
        · exact h.elim
      · exact h.elim
    · exact h.elim
  · split at h
    · rename_i h1; refine ⟨_, ?_, h.2⟩; simp only [evX, h1]; exact ⟨h.1, by simp⟩
    · exact h.elim
  · obtain ⟨out, h1, h2⟩ := h; exact ⟨out, ⟨out, h1, rfl⟩, h2⟩
  · split at h
    · rename_i h1; obtain ⟨out, h2, h3⟩ := h; refine ⟨out, ?_, h3⟩; simp only [evX, h1]; exact ⟨out, h2, rfl⟩
    · rename_i h1; obtain ⟨out, h2, h3⟩ := h; refine ⟨out, ?_, h3⟩; simp only [evX, h1]; exact ⟨out, h2, rfl⟩
    · exact h.elim
  · exact ⟨_, by simp only [evX], h⟩
  · split at h
    · rename_i h1
      split at h
      · rename_i h2; exact ⟨_, by simp only [evX, h1, h2], h⟩
      · exact h.elim
    · exact h.elim
  · split at h
    · rename_i h1; exact ⟨_, by simp only [evX, h1], h⟩
    · rename_i h1
      split at h
      · rename_i h2; exact ⟨_, by simp only [evX, h1, h2], h⟩
      · exact h.elim
    · exact h.elim
  · rename_i op
    simp only [evX]
    unfold evXN at h
    split at h
    · split at h
      · rename_i h1 h2
        split at h
        · rename_i h3; exact ⟨_, by simp only [evXN, h1, h2, h3]; exact ⟨h.1, by simp⟩, h.2⟩
        · exact h.elim
      · exact h.elim
    · split at h
      · rename_i h1 h2
        split at h
        · rename_i h3; exact ⟨_, by simp only [evXN, h1, h2, h3]; exact ⟨h.1, by simp⟩, h.2⟩
        · exact h.elim
      · exact h.elim
    · split at h
      · rename_i h1
        split at h
        · rename_i h3; exact ⟨_, by simp only [evXN, h1, h3], h⟩
        · exact h.elim
      · exact h.elim
    · split at h
      · rename_i h1 h2
        split at h
        · rename_i h3
          split at h
          · rename_i h4
            split at h
            · rename_i h5 h6; exact ⟨_, by simp only [evXN, h1, h2, h3, h4, h5, h6]; exact ⟨h.1, by simp⟩, h.2⟩
            · exact h.elim
          · rename_i h4; exact ⟨_, by simp only [evXN, h1, h2, h3, h4]; exact ⟨h.1, by simp⟩, h.2⟩
        · exact h.elim
      · exact h.elim
    · split at h
      · rename_i h1 h2
        split at h
        · rename_i h3
          split at h
          · rename_i h4; exact ⟨_, by simp only [evXN, h1, h2, h3, h4], h⟩
          · exact h.elim
        · exact h.elim
      · exact h.elim
    · exact h.elim
  · exact h.elim

theorem res_st {n : Nat} {x v : Ar} (h : resOp P ops o = some (.st n x v)) : ∃ t a b, o.op = .store t a b ∧ szOf P t = some n ∧ opA a = some x ∧ opA b = some v := by
  unfold resOp at h
  (repeat' split at h) <;> simp [Option.bind_eq_some_iff] at h
  all_goals try (obtain ⟨_, _, _, _, h⟩ := h; split at h <;> simp [Option.bind_eq_some_iff] at h; done)
  rename_i t a b hop
  obtain ⟨n', hn, a', ha, b', hb, rfl, rfl, rfl⟩ := h
  exact ⟨t, a, b, hop, hn, ha, hb⟩

theorem res_box {n : Nat} {x : Ar} (h : resOp P ops o = some (.box n x)) : ∃ t a, o.op = .box t a ∧ opA a = some x := by
  unfold resOp at h
  (repeat' split at h) <;> simp [Option.bind_eq_some_iff] at h
  all_goals try (obtain ⟨_, _, _, _, h⟩ := h; split at h <;> simp [Option.bind_eq_some_iff] at h; done)
  rename_i t a hop
  obtain ⟨hn, ha⟩ := h
  exact ⟨t, a, hop, ha⟩

theorem res_alloc {zs : List V} (h : resOp P ops o = some (.alloc zs)) : ∃ t, o.op = .alloc t ∧ zerosOf P t = some zs := by
  unfold resOp at h
  (repeat' split at h) <;> simp [Option.bind_eq_some_iff] at h
  all_goals try (obtain ⟨_, _, _, _, h⟩ := h; split at h <;> simp [Option.bind_eq_some_iff] at h; done)
  rename_i t hop
  exact ⟨t, hop, h⟩

theorem res_bsl {ow : Bool} {sz : Nat} {zs : List (List T)} {ps : List (Nat × Ar)} (h : resOp P ops o = some (.bsl ow sz zs ps)) : Nonempty (BslOp P o sz zs ps) := by
  unfold resOp at h
  (repeat' split at h) <;> simp [Option.bind_eq_some_iff] at h
  all_goals try (obtain ⟨_, _, _, _, h⟩ := h; split at h <;> simp [Option.bind_eq_some_iff] at h; done)
  rename_i t n parts hop _ e ht
  obtain ⟨sz', hs, zv, hzv, z, hz, hle, ps', hps, _, rfl, rfl, rfl⟩ := h
  exact ⟨⟨t, e, n, parts, zv, z, hop, ht, hs, hzv, hz, hle, rfl, hps⟩⟩

theorem res_app {sz bytes : Nat} {x y : Ar} (h : resOp P ops o = some (.app sz bytes x y)) : Nonempty (AppOp P o sz bytes x y) := by
  unfold resOp at h
  (repeat' split at h) <;> simp [Option.bind_eq_some_iff] at h
  all_goals try (obtain ⟨_, _, _, _, h⟩ := h; split at h <;> simp [Option.bind_eq_some_iff] at h; done)
  rename_i args ats hop _ _ x' y' t u ha hat htu _ e ht
  obtain ⟨inf, hi, z, hz, hc, a', hx, b', hy, rfl, rfl, rfl, rfl⟩ := h
  subst htu
  exact ⟨⟨x', y', args, ats, t, e, inf, z, hop, ha, hat, ht, hi, hz, rfl, rfl, by omega, by omega, hx, hy⟩⟩

theorem res_mksl {sz bytes : Nat} {z : List V} {n : Ar} (h : resOp P ops o = some (.mksl sz bytes z n)) : ∃ t e l i, o.op = .makeSlice t (.tmp l) (.tmp l) ∧ P.underlying t = some (.slice e) ∧ P.info? e = some i ∧ zerosOf P e = some z ∧ i.size = sz ∧ i.bytes = bytes ∧ n = .s l := by
  unfold resOp at h
  (repeat' split at h) <;> simp [Option.bind_eq_some_iff] at h
  all_goals try (obtain ⟨_, _, _, _, h⟩ := h; split at h <;> simp [Option.bind_eq_some_iff] at h; done)
  rename_i t l c hop _ e ht hlc
  obtain ⟨inf, hi, z', hz, rfl, rfl, rfl, rfl⟩ := h
  subst hlc
  exact ⟨t, e, l, inf, hop, ht, hi, hz, rfl, rfl, rfl⟩

theorem res_call {f : FuncId} {args' : List Ar} (h : resOp P ops o = some (.call f args')) : ∃ args ats, o.op = .call { callee := .value (.func f), args := args, argTypes := ats } ∧ args.toList.mapM opA = some args' := by
  unfold resOp at h
  (repeat' split at h) <;> simp [Option.bind_eq_some_iff] at h
  all_goals try (obtain ⟨_, _, _, _, h⟩ := h; split at h <;> simp [Option.bind_eq_some_iff] at h; done)
  obtain ⟨ha, rfl⟩ := h
  exact ⟨_, _, by assumption, ha⟩

theorem res_callv {x : Ar} {args' : List Ar} (h : resOp P ops o = some (.callv x args')) : ∃ t args ats, o.op = .call { callee := .value (.tmp t), args := args, argTypes := ats } ∧ args.toList.mapM opA = some args' ∧ x = .s t := by
  unfold resOp at h
  (repeat' split at h) <;> simp [Option.bind_eq_some_iff] at h
  all_goals try (obtain ⟨_, _, _, _, h⟩ := h; split at h <;> simp [Option.bind_eq_some_iff] at h; done)
  rename_i t args ats hop
  rcases h with ⟨h1, h2⟩
  first | exact ⟨t, args, ats, hop, h1, h2.symm⟩ | exact ⟨t, args, ats, hop, h2, h1.symm⟩

theorem FnEv_eq {f : FuncId} {vs : List V} {sto : List (Nat × AObj)} {out : Out} (h : FnEv P f vs base sto (· = out)) : FnAt P f vs base sto out := by
  obtain ⟨out', h1, rfl⟩ := h
  split at h1
  · exact h1
  · exact h1 sto

theorem res_mkmap {kag vag : Bool} (h : resOp P ops o = some (.mkmap kag vag)) : ∃ t, o.op = .makeMap t none := by
  unfold resOp at h
  (repeat' split at h) <;> simp [Option.bind_eq_some_iff] at h
  all_goals try (obtain ⟨_, _, _, _, h⟩ := h; split at h <;> simp [Option.bind_eq_some_iff] at h; done)
  exact ⟨_, by assumption⟩

theorem res_mrange {x : Ar} (h : resOp P ops o = some (.mrange x)) : ∃ t kt et a, o.op = .range t a ∧ P.underlying t = some (.map kt et) ∧ opA a = some x := by
  unfold resOp at h
  (repeat' split at h) <;> simp [Option.bind_eq_some_iff] at h
  all_goals try (obtain ⟨_, _, _, _, h⟩ := h; split at h <;> simp [Option.bind_eq_some_iff] at h; done)
  exact ⟨_, _, _, _, by assumption, by assumption, h⟩
theorem res_lenm {x : Ar} (h : resOp P ops o = some (.lenm x)) : ∃ args ats t kt et a, o.op = .call { callee := .builtin .len, args := args, argTypes := ats } ∧ args[0]? = some a ∧ ats[0]? = some t ∧ P.underlying t = some (.map kt et) ∧ opA a = some x := by
  unfold resOp at h
  (repeat' split at h) <;> simp [Option.bind_eq_some_iff] at h
  all_goals try (obtain ⟨_, _, _, _, h⟩ := h; split at h <;> simp [Option.bind_eq_some_iff] at h; done)
  exact ⟨_, _, _, _, _, _, by assumption, by assumption, by assumption, by assumption, h⟩

theorem evalN_sound {gc : Bool} {nop : NOp} {v : V} {ps : List Bool} (hres : resN P o = some nop) (he : evalN gc st nop = some (v, ps)) (hp : ∀ q ∈ ps, q) : ESound P o gc st v := by
  unfold resN at hres
  split at hres
  · rename_i t x k ok hop
    split at hres
    · rename_i kt et hu
      simp only [Option.bind_eq_bind, Option.bind_eq_some_iff, Option.some.injEq] at hres
      obtain ⟨⟨ks, kag⟩, h1, zv, h2, x', h3, k', h4, rfl⟩ := hres
      exact e_lookup hop hu h1 h2 h3 h4 he hp
    · cases hres
  · split at hres
    · simp only [Option.bind_eq_bind, Option.bind_eq_some_iff, Option.some.injEq] at hres
      obtain ⟨⟨ks, kag⟩, h1, x', h3, k', h4, v', h5, rfl⟩ := hres
      simp [evalN] at he
    · cases hres
  · split at hres
    · simp only [Option.bind_eq_bind, Option.bind_eq_some_iff, Option.some.injEq] at hres
      obtain ⟨⟨ks, kag⟩, h1, zv, h2, x', h3, k', h4, rfl⟩ := hres
      simp [evalN] at he
    · cases hres
  · simp only [Option.bind_eq_bind, Option.bind_eq_some_iff, Option.some.injEq] at hres
    obtain ⟨_, _, _, _, _, _, rfl⟩ := hres
    simp [evalN] at he
  · rename_i op t x y ty hop
    split at hres
    · rename_i e hu
      split at hres
      · simp only [Option.bind_eq_bind, Option.bind_eq_some_iff, Option.some.injEq] at hres
        obtain ⟨x', h3, rfl⟩ := hres
        exact e_eqn2 (neg := false) (by simpa using hop) rfl hu h3 he hp
      · simp only [Option.bind_eq_bind, Option.bind_eq_some_iff, Option.some.injEq] at hres
        obtain ⟨x', h3, rfl⟩ := hres
        exact e_eqn2 (neg := true) (by simpa using hop) rfl hu h3 he hp
      · cases hres
    · rename_i fs hu
      have kt : ∀ {ks : List KSh} {b : Bool}, keySh P t = some (ks, b) → b = true := by
        intro ks b h
        unfold keySh at h
        rw [hu] at h
        simp only at h
        split at h
        · simp only [Option.map_eq_some_iff, Prod.mk.injEq] at h
          obtain ⟨_, _, _, h⟩ := h
          exact h.symm
        · cases h
      split at hres
      · rename_i ks b hk
        simp only [Option.bind_eq_bind, Option.bind_eq_some_iff, Option.some.injEq] at hres
        obtain ⟨x', h3, y', h4, rfl⟩ := hres
        rw [kt hk] at hk
        exact e_eqst (neg := false) (by simpa using hop) hk h3 h4 he hp
      · rename_i ks b hk
        simp only [Option.bind_eq_bind, Option.bind_eq_some_iff, Option.some.injEq] at hres
        obtain ⟨x', h3, y', h4, rfl⟩ := hres
        rw [kt hk] at hk
        exact e_eqst (neg := true) (by simpa using hop) hk h3 h4 he hp
      · cases hres
    · cases hres
  · split at hres
    · split at hres
      · simp only [Option.bind_eq_bind, Option.bind_eq_some_iff, Option.some.injEq] at hres
        obtain ⟨⟨ks, kag⟩, h1, x', h3, k', h4, rfl⟩ := hres
        simp [evalN] at he
      · cases hres
    · cases hres
  · split at hres
    · split at hres
      · simp only [Option.bind_eq_bind, Option.bind_eq_some_iff, Option.some.injEq] at hres
        obtain ⟨x', h3, rfl⟩ := hres
        simp [evalN] at he
      · cases hres
    · cases hres
  · simp only [Option.bind_eq_bind, Option.bind_eq_some_iff, Option.some.injEq] at hres
    obtain ⟨x', h3, rfl⟩ := hres
    simp [evalN] at he
  · rename_i x hop
    simp only [Option.bind_eq_bind, Option.bind_eq_some_iff, Option.some.injEq] at hres
    obtain ⟨x', h3, rfl⟩ := hres
    exact e_ient hop h3 he hp
  · rename_i f args ats hop
    split at hres
    · rename_i cnt x y hf ha
      simp only [Option.bind_eq_bind, Option.bind_eq_some_iff, Option.some.injEq] at hres
      obtain ⟨x', h3, y', h4, rfl⟩ := hres
      exact e_xtr hop ha hf h3 h4 he hp
    · cases hres
  · simp only [Option.some.injEq] at hres
    subst hres
    simp [evalN] at he

theorem evXN_sound {nop : NOp} {out : Out} (hres : resN P o = some nop) (h : evXN st (· = out) nop) : OSound P o base st out := by
  unfold resN at hres
  split at hres
  · split at hres
    · simp only [Option.bind_eq_bind, Option.bind_eq_some_iff, Option.some.injEq] at hres
      obtain ⟨⟨ks, kag⟩, h1, zv, h2, x', h3, k', h4, rfl⟩ := hres
      simp [evXN] at h
    · cases hres
  · rename_i t x k v hop
    split at hres
    · rename_i kt et hu
      simp only [Option.bind_eq_bind, Option.bind_eq_some_iff, Option.some.injEq] at hres
      obtain ⟨⟨ks, kag⟩, h1, x', h3, k', h4, v', h5, rfl⟩ := hres
      simp only [evXN] at h
      split at h
      · rename_i q cs hx hk
        split at h
        · rename_i kag' es sx hes
          obtain ⟨⟨rfl, h6⟩, rfl⟩ := h
          exact o_mupd hop hu h1 h3 h4 h5 hx hk hes h6
        · exact h.elim
      · exact h.elim
    · cases hres
  · rename_i t x k hop
    split at hres
    · rename_i kt et hu
      simp only [Option.bind_eq_bind, Option.bind_eq_some_iff, Option.some.injEq] at hres
      obtain ⟨⟨ks, kag⟩, h1, zv, h2, x', h3, k', h4, rfl⟩ := hres
      simp only [evXN] at h
      split at h
      · rename_i q cs hx hk
        split at h
        · rename_i kag' es c bs hes
          split at h
          · rename_i i hm
            split at h
            · rename_i e b he hb
              obtain ⟨⟨rfl, h6⟩, rfl⟩ := h
              exact (o_ment hop hu h1 h2 h3 h4 hx hk hes h6).1 i e b hm he hb
            · exact h.elim
          · rename_i hm
            obtain ⟨⟨rfl, h6⟩, rfl⟩ := h
            exact (o_ment hop hu h1 h2 h3 h4 hx hk hes h6).2 hm
        · exact h.elim
      · exact h.elim
    · cases hres
  · rename_i t x s v hop
    simp only [Option.bind_eq_bind, Option.bind_eq_some_iff, Option.some.injEq] at hres
    obtain ⟨x', h3, s', h4, v', h5, rfl⟩ := hres
    simp only [evXN] at h
    split at h
    · rename_i q kd z hx hs
      split at h
      · rename_i kag es c bs hes
        split at h
        · rename_i i hi
          subst h
          exact o_ests hop h3 h4 h5 hx hs hes hi
        · exact h.elim
      · exact h.elim
    · exact h.elim
  · split at hres
    · split at hres
      · simp only [Option.bind_eq_bind, Option.bind_eq_some_iff, Option.some.injEq] at hres
        obtain ⟨x', h3, rfl⟩ := hres
        simp [evXN] at h
      · simp only [Option.bind_eq_bind, Option.bind_eq_some_iff, Option.some.injEq] at hres
        obtain ⟨x', h3, rfl⟩ := hres
        simp [evXN] at h
      · cases hres
    · split at hres
      · simp only [Option.bind_eq_bind, Option.bind_eq_some_iff, Option.some.injEq] at hres
        obtain ⟨x', h3, y', h4, rfl⟩ := hres
        simp [evXN] at h
      · simp only [Option.bind_eq_bind, Option.bind_eq_some_iff, Option.some.injEq] at hres
        obtain ⟨x', h3, y', h4, rfl⟩ := hres
        simp [evXN] at h
      · cases hres
    · cases hres
  · rename_i args ats hop
    split at hres
    · rename_i x k ty ha hat
      split at hres
      · rename_i kt et hu
        simp only [Option.bind_eq_bind, Option.bind_eq_some_iff, Option.some.injEq] at hres
        obtain ⟨⟨ks, kag⟩, h1, x', h3, k', h4, rfl⟩ := hres
        simp only [evXN] at h
        split at h
        · rename_i q cs hx hk
          split at h
          · rename_i kag' es sx hes
            obtain ⟨⟨rfl, h6⟩, rfl⟩ := h
            exact o_mdel hop ha hat hu h1 h3 h4 hx hk hes h6
          · exact h.elim
        · exact h.elim
      · cases hres
    · cases hres
  · rename_i args ats hop
    split at hres
    · rename_i x ty ha hat
      split at hres
      · rename_i kt et hu
        simp only [Option.bind_eq_bind, Option.bind_eq_some_iff, Option.some.injEq] at hres
        obtain ⟨x', h3, rfl⟩ := hres
        simp only [evXN] at h
        split at h
        · rename_i q hx
          split at h
          · rename_i kag es sx hes
            subst h
            exact o_mclr hop ha hat hu h3 hx hes
          · exact h.elim
        · exact h.elim
      · cases hres
    · cases hres
  · simp only [Option.bind_eq_bind, Option.bind_eq_some_iff, Option.some.injEq] at hres
    obtain ⟨x', h3, rfl⟩ := hres
    simp [evXN] at h
  · simp only [Option.bind_eq_bind, Option.bind_eq_some_iff, Option.some.injEq] at hres
    obtain ⟨x', h3, rfl⟩ := hres
    simp [evXN] at h
  · split at hres
    · simp only [Option.bind_eq_bind, Option.bind_eq_some_iff, Option.some.injEq] at hres
      obtain ⟨x', h3, y', h4, rfl⟩ := hres
      simp [evXN] at h
    · cases hres
  · simp only [Option.some.injEq] at hres
    subst hres
    simp [evXN] at h

theorem evX_sound {aop : AOp} {out : Out} (hres : resOp P ops o = some aop) (h : evX P base st (· = out) aop) : OSound P o base st out := by
  unfold evX at h
  split at h
  · obtain ⟨t, a, b, hop, hn, ha, hb⟩ := res_st hres
    split at h
    · rename_i k off hx
      split at h
      · rename_i cs hk
        split at h
        · rename_i vs hvs
          obtain ⟨⟨h1, h2⟩, rfl⟩ := h
          exact o_store hop hn ha hb hx hk hvs (of_decide_eq_true h1) h2
        · exact h.elim
      · exact h.elim
    · exact h.elim
  · obtain ⟨t, a, hop, ha⟩ := res_box hres
    split at h
    · rename_i vs hvs
      obtain ⟨_, rfl⟩ := h
      exact o_box (n := 0) hop ha hvs
    · exact h.elim
  · obtain ⟨t, hop, hz⟩ := res_alloc hres
    subst h
    exact o_alloc hop hz
  · obtain ⟨B⟩ := res_bsl hres
    split at h
    · rename_i hx
      obtain ⟨_, h⟩ := h
      split at h
      · rcases h with h | h
        · split at h
          · next he => subst h; exact o_bsl_nil B hx (by simpa using he)
          · subst h; exact o_bsl_own B hx
        · subst h; exact o_bsl B hx
      · subst h; exact o_bsl B hx
    · exact h.elim
  · obtain ⟨A⟩ := res_app hres
    split at h
    · rename_i ys hy
      split at h
      · rename_i hx
        obtain ⟨h1, h2, h3, rfl⟩ := h
        exact o_app_nil A hx hy h1 h2 h3
      · rename_i k s xs hx
        split at h
        · rename_i n hk
          obtain ⟨rfl, rfl, h1, h2, h3, rfl⟩ := h
          exact o_app_own A hx hk hy h1 h2 h3
        · exact h.elim
      · exact h.elim
    · exact h.elim
  · obtain ⟨t, e, l, i, hop, ht, hi, hz, rfl, rfl, rfl⟩ := res_mksl hres
    split at h
    · rename_i m hm
      obtain ⟨⟨h1, h2, h3, h4⟩, rfl⟩ := h
      exact o_mksl hop ht hi hz hm h1 h2 h3
    · exact h.elim
  · obtain ⟨args, ats, hop, ha⟩ := res_call hres
    exact o_call hop ha (FnEv_eq h)
  · obtain ⟨t, args, ats, hop, ha, rfl⟩ := res_callv hres
    split at h
    · rename_i f hv; exact o_callv0 hop ha hv (FnEv_eq h)
    · rename_i f caps hv; exact o_callv hop ha hv (FnEv_eq h)
    · exact h.elim
  · obtain ⟨t, hop⟩ := res_mkmap hres
    subst h
    exact o_mkmap hop
  · obtain ⟨t, kt, et, a, hop, hu, hx⟩ := res_mrange hres
    split at h
    · rename_i q hv
      split at h
      · rename_i kag es c bs hes
        subst h
        exact o_mrange hop hu hx hv hes
      · exact h.elim
    · exact h.elim
  · obtain ⟨args, ats, t, kt, et, a, hop, ha, hat, hu, hx⟩ := res_lenm hres
    split at h
    · rename_i hv
      subst h
      exact o_lenm (n := 0) hop ha hat hu hx (.inl ⟨hv, rfl⟩)
    · rename_i q hv
      split at h
      · rename_i kag es sx hes
        subst h
        exact o_lenm hop ha hat hu hx (.inr ⟨q, kag, es, sx, hv, hes, rfl⟩)
      · exact h.elim
    · exact h.elim
  · exfalso
    unfold resOp at hres
    (repeat' split at hres) <;> simp [Option.bind_eq_some_iff] at hres
    all_goals try (obtain ⟨_, _, _, _, hres⟩ := hres; split at hres <;> simp [Option.bind_eq_some_iff] at hres; done)
  · exact h.elim

theorem all_cases {aop : AOp} (h : resAll P ops o = some aop) : resOp P ops o = some aop ∨ ∃ nop, aop = .nw nop ∧ resN P o = some nop := by
  unfold resAll at h
  split at h
  · rename_i x hx; simp at h; subst h; exact .inl hx
  · simp only [Option.map_eq_some_iff] at h
    obtain ⟨nop, h1, rfl⟩ := h
    exact .inr ⟨nop, rfl, h1⟩
theorem evalE_all {gc : Bool} {aop : AOp} {v : V} {ps : List Bool} (hres : resAll P ops o = some aop) (he : evalE gc st aop = some (v, ps)) (hp : ∀ q ∈ ps, q) : ESound P o gc st v := by
  rcases all_cases hres with h | ⟨nop, rfl, h⟩
  · exact evalE_sound h he hp
  · exact evalN_sound h he hp
theorem evX_all {aop : AOp} {out : Out} (hres : resAll P ops o = some aop) (h : evX P base st (· = out) aop) : OSound P o base st out := by
  rcases all_cases hres with h' | ⟨nop, rfl, h'⟩
  · exact evX_sound h' h
  · exact evXN_sound h' h
theorem res_call_all {f : FuncId} {args' : List Ar} (h : resAll P ops o = some (.call f args')) : ∃ args ats, o.op = .call { callee := .value (.func f), args := args, argTypes := ats } ∧ args.toList.mapM opA = some args' := by
  rcases all_cases h with h' | ⟨nop, h0, h'⟩
  · exact res_call h'
  · cases h0

theorem callG_step {gc : Bool} {K : Out → Prop} {aop : AOp} (h : callG P gc base st K aop) : ∃ out, callG P gc base st (· = out) aop ∧ K out := by
  unfold callG at h ⊢
  split at h
  · obtain ⟨out, h1, h2, h3⟩ := h
    exact ⟨_, ⟨out, h1, h2, rfl⟩, h3⟩
  · exact h.elim

theorem evO_step {ao : AO} {K : Out → Prop} (h : evO P base st ao K) : ∃ out, evO P base st ao (· = out) ∧ K out := by
  unfold evO at h
  split at h
  · rename_i hg
    unfold evU at h
    split at h
    · rename_i v ps he
      refine ⟨_, ?_, h.2⟩
      simp only [evO, hg, evU, he]; exact ⟨h.1, by simp⟩
    · rename_i he
      obtain ⟨out, h1, h2⟩ := evX_step h
      refine ⟨out, ?_, h2⟩
      simp only [evO, hg, evU, he]; exact h1
  · rename_i s want hg
    split at h
    · exact h.elim
    · rename_i gc hc
      split at h
      · rename_i v ps he
        refine ⟨_, ?_, h.2⟩
        simp only [evO, hg, hc, he]; exact ⟨h.1, by simp⟩
      · rename_i he
        rcases h with h | h
        · obtain ⟨out, h1, h2⟩ := callG_step h
          refine ⟨out, ?_, h2⟩
          simp only [evO, hg, hc, he]; exact Or.inl h1
        cases gc with
        | true =>
          obtain ⟨out, h1, h2⟩ := evX_step (h.1 rfl)
          refine ⟨out, ?_, h2⟩
          simp only [evO, hg, hc, he]; exact Or.inr ⟨fun _ => h1, by simp⟩
        | false =>
          refine ⟨_, ?_, h.2 rfl⟩
          simp only [evO, hg, hc, he]; exact Or.inr ⟨by simp, fun _ => by simp⟩

theorem yielded_bool {C : Ctx} {Λ : L} {a : Act} (hr : Rel C Λ st a) {j s : Nat} (hj : (ops[j]?).bind (·.dst) = some s) {want gc : Bool} (hg : gcond want (look st.env s) = some gc) (hlt : s < C.n) :
    (yielded ops a.tmps j == some want) = gc := by
  have hs := hr.env s
  have hget : a.tmps[s]? = some (a.tmps.getD s undef) := by
    rw [Array.getD_eq_getD_getElem?]
    rw [Array.getElem?_eq_getElem (by rw [hr.size]; exact hlt)]
    simp
  unfold yielded
  rw [hj]
  simp only [Option.bind_some, hget]
  generalize a.tmps.getD s undef = u at hs
  unfold gcond at hg
  split at hg
  · rename_i b hl
    rw [hl] at hs
    have := hs.repT.bool_inv
    subst this
    simp at hg; subst hg
    cases b <;> cases want <;> rfl
  · rename_i c b hl
    rw [hl] at hs
    simp at hg
    cases hs with
    | gd h1 h2 =>
      cases c with
      | true =>
        have := (h1 rfl).repT.bool_inv
        subst this; subst hg
        cases b <;> cases want <;> rfl
      | false =>
        have := h2 rfl
        subst this; subst hg
        cases b <;> cases want <;> rfl
  · rename_i hl
    rw [hl] at hs
    simp at hg; subst hg
    cases hs with
    | gd h1 h2 =>
      have := h2 rfl
      subst this
      cases want <;> rfl
  · simp at hg

/-- an operation of a region, guard and all -/
theorem evO_sound {ao : AO} {out : Out} {i : Nat} (ho : ops[i]? = some o) (hres : resO P ops o = some ao) (h : evO P base st ao (· = out)) {C : Ctx} {Λ : L} {a : Act} {next : Act → World → Prop} {Q : Exit → Act → World → Prop} (hC : C.P = P) (hr : Rel C Λ st a)
    (hdst : ∀ (j : Nat) (p : Oper) (d : Nat), ops[j]? = some p → p.dst = some d → d < C.n)
    (hle : base + out.n ≤ Λ.nxt) (hfree : ∀ k, base ≤ k → k < base + out.n → k < Λ.nxt ∧ Free Λ k ∧ aget st.s.sto k = none)
    (hnext : ∀ v Λ', Kp Λ Λ' → Λ'.nxt = Λ.nxt → RelS Λ' (st.s.app out) → RelV Λ' v out.v → (∀ k, Free Λ k → aget st.s.sto k = none → (base + out.n ≤ k ∨ (k < base ∧ out.rd = false)) → Free Λ' k) → next (a.put o.dst v) Λ'.w) :
    ao.dst = o.dst ∧ wpOp P ops Q i next a Λ.w := by
  unfold resO at hres
  split at hres
  · simp at hres
  · rename_i aop hop
    split at hres
    · rename_i hg
      simp at hres; subst hres
      refine ⟨rfl, ?_⟩
      have hw : Region.wanted o (yielded ops a.tmps) = true := by simp [Region.wanted, hg]
      simp only [wpOp, ho, hw, if_true]
      refine .inl ?_
      simp only [evO, evU] at h
      split at h
      · rename_i v ps he
        obtain ⟨h1, rfl⟩ := h
        exact OSound.of_E (evalE_all hop he (pall_mem h1)) C Λ a next Q hC hr hle hfree hnext
      · exact evX_all hop h C Λ a next Q hC hr hle hfree hnext
    · rename_i j want hg
      split at hres
      · rename_i s hs
        simp at hres; subst hres
        refine ⟨rfl, ?_⟩
        simp only [evO] at h
        split at h
        · exact h.elim
        · rename_i gc hc
          have hlt : s < C.n := by
            cases hop' : ops[j]? with
            | none => rw [hop'] at hs; simp at hs
            | some p => rw [hop'] at hs; exact hdst j p s hop' (by simpa using hs)
          have hy := yielded_bool hr hs hc hlt
          have hw : Region.wanted o (yielded ops a.tmps) = gc := by simp only [Region.wanted, hg]; exact hy
          simp only [wpOp, ho, hw]
          split at h
          · rename_i v ps he
            obtain ⟨h1, rfl⟩ := h
            cases gc with
            | true =>
              simp only [if_true]
              refine .inl ?_
              have hps : ∀ q ∈ ps, q = true := by
                intro q hq
                have := pall_mem h1 (!true || q) (List.mem_map.2 ⟨q, hq, rfl⟩)
                simpa using this
              refine OSound.of_E (r := looksE st aop) (evalE_all hop he hps) C Λ a next Q hC hr (by simp at hle ⊢; omega) (fun k h1 h2 => by simp at h2; omega) fun v' Λ' a1 a2 a3 a4 a5 => hnext v' Λ' a1 a2 a3 (.gd (fun _ => a4) (by simp)) a5
            | false =>
              simp only [Bool.false_eq_true, if_false]
              exact hnext undef Λ (Kp.refl _) rfl hr.s (.gd (by simp) (fun _ => rfl)) (fun _ h _ _ => h)
          · rcases h with h | h
            · unfold callG at h
              split at h
              · rename_i fid args0 _
                obtain ⟨out0, k1, ⟨k2, k3⟩, rfl⟩ := h
                obtain ⟨args, ats, hop', ha⟩ := res_call_all hop
                cases gc with
                | true =>
                  simp only [if_true]
                  have hf : FnAt P fid (argsV st args0) base st.s.sto out0 := by
                    have := k1 rfl
                    split at this
                    · exact this
                    · exact this _
                  have hso : OSound P o base st out0 := o_call hop' ha hf
                  refine .inl (hso C Λ a next Q hC hr hle hfree fun v' Λ' a1 a2 a3 a4 a5 => hnext v' Λ' a1 a2 a3 (.gd (fun _ => a4) (by simp)) a5)
                | false =>
                  simp only [Bool.false_eq_true, if_false]
                  refine hnext undef Λ (Kp.refl _) rfl ?_ (.gd (by simp) (fun _ => rfl)) (fun _ h _ _ => h)
                  simp only [S.app, k2, asets]
                  exact hr.s
              · exact h.elim
            cases gc with
            | true =>
              simp only [if_true]
              exact .inl (evX_all hop (h.1 rfl) C Λ a next Q hC hr hle hfree hnext)
            | false =>
              simp only [Bool.false_eq_true, if_false]
              have := h.2 rfl
              subst this
              exact hnext undef Λ (Kp.refl _) rfl hr.s (.gd (by simp) (fun _ => rfl)) (fun _ h _ _ => h)
      · simp at hres

end
end Go.GB


/-
  GbQ: regions in the order of the text.
-/
namespace Go.GB
section
variable {P : Program} {ops : Array Oper}

/-- a region evaluated: what each operation does -/
def Ch (P : Program) : Nat → St → List AO → List Out → Nat → St → Prop
  | base, st, [], [], b', s' => b' = base ∧ s' = st
  | base, st, ao :: r, out :: os, b', s' => evO P base st ao (· = out) ∧ Ch P (base + out.n) (st.app ao.dst out) r os b' s'
  | _, _, _, _, _, _ => False

def flags : List Out → List (Bool × Bool)
  | [] => []
  | o :: r => (o.rd, !o.ob.isEmpty || decide (0 < o.n)) :: flags r

theorem evR_chain : ∀ {aos : List AO} {base : Nat} {st : St} {fl : List (Bool × Bool)} {K : Nat → St → List (Bool × Bool) → Prop}, evR P base st aos fl K → ∃ outs b' st', Ch P base st aos outs b' st' ∧ K b' st' (fl ++ flags outs)
  | [], base, st, fl, K, h => ⟨[], base, st, ⟨rfl, rfl⟩, by simpa [flags, evR] using h⟩
  | ao :: r, base, st, fl, K, h => by
    obtain ⟨out, h1, h2⟩ := evO_step h
    obtain ⟨outs, b', st', h3, h4⟩ := evR_chain h2
    exact ⟨out :: outs, b', st', ⟨h1, h3⟩, by simpa [flags] using h4⟩

theorem Ch.le : ∀ {aos : List AO} {base : Nat} {st : St} {outs : List Out} {b' : Nat} {s' : St}, Ch P base st aos outs b' s' → base ≤ b'
  | [], _, _, [], _, _, h => by rw [h.1]; exact Nat.le_refl _
  | _ :: r, _, _, _ :: os, _, _, h => by have := Ch.le h.2; omega
  | [], _, _, _ :: _, _, _, h => h.elim
  | _ :: _, _, _, [], _, _, h => h.elim

/-- names of what an operation sets -/
def NmOk (base : Nat) (st : St) (out : Out) : Prop := ∀ k o, (k, o) ∈ out.ob → aget st.s.sto k ≠ none ∨ (base ≤ k ∧ k < base + out.n)

theorem evXN_names {base : Nat} {st : St} {op : NOp} {out : Out} (h : evXN st (· = out) op) : NmOk base st out := by
  unfold evXN at h
  split at h
  · split at h
    · split at h
      · rename_i hk
        obtain ⟨_, rfl⟩ := h; intro j ob hj; simp at hj; rw [hj.1, hk]; exact .inl (by simp)
      · exact h.elim
    · exact h.elim
  · split at h
    · split at h
      · rename_i hk
        obtain ⟨_, rfl⟩ := h; intro j ob hj; simp at hj; rw [hj.1, hk]; exact .inl (by simp)
      · exact h.elim
    · exact h.elim
  · split at h
    · split at h
      · rename_i hk
        subst h; intro j ob hj; simp at hj; rw [hj.1, hk]; exact .inl (by simp)
      · exact h.elim
    · exact h.elim
  · split at h
    · split at h
      · rename_i hk
        split at h
        · split at h
          · obtain ⟨_, rfl⟩ := h; intro j ob hj; simp at hj; rw [hj.1, hk]; exact .inl (by simp)
          · exact h.elim
        · obtain ⟨_, rfl⟩ := h; intro j ob hj; simp at hj; rw [hj.1, hk]; exact .inl (by simp)
      · exact h.elim
    · exact h.elim
  · split at h
    · split at h
      · rename_i hk
        split at h
        · subst h; intro j ob hj; simp at hj; rw [hj.1, hk]; exact .inl (by simp)
        · exact h.elim
      · exact h.elim
    · exact h.elim
  · exact h.elim

theorem evX_names {base : Nat} {st : St} {aop : AOp} {out : Out} (h : evX P base st (· = out) aop) : NmOk base st out := by
  unfold evX at h
  split at h
  · split at h
    · split at h
      · rename_i hk
        split at h
        · obtain ⟨_, rfl⟩ := h; intro j ob hj; simp at hj; rw [hj.1, hk]; exact .inl (by simp)
        · exact h.elim
      · exact h.elim
    · exact h.elim
  · split at h
    · obtain ⟨_, rfl⟩ := h; intro j ob hj; simp at hj; exact .inr (by simp; omega)
    · exact h.elim
  · subst h; intro j ob hj; simp at hj; exact .inr (by simp; omega)
  · split at h
    · obtain ⟨_, h⟩ := h
      split at h
      · rcases h with h | h
        · split at h
          · subst h; intro j ob hj; simp at hj
          · subst h; intro j ob hj; simp at hj; exact .inr (by simp; omega)
        · subst h; intro j ob hj; simp at hj
      · subst h; intro j ob hj; simp at hj
    · exact h.elim
  · split at h
    · split at h
      · obtain ⟨_, _, _, rfl⟩ := h; intro j ob hj; simp at hj; exact .inr (by simp; omega)
      · split at h
        · rename_i hk
          obtain ⟨_, _, _, _, _, rfl⟩ := h; intro j ob hj; simp at hj; rw [hj.1, hk]; exact .inl (by simp)
        · exact h.elim
      · exact h.elim
    · exact h.elim
  · split at h
    · obtain ⟨_, rfl⟩ := h; intro j ob hj; simp at hj; exact .inr (by simp; omega)
    · exact h.elim
  · exact (FnEv_eq h).2.1
  · split at h
    · exact (FnEv_eq h).2.1
    · exact (FnEv_eq h).2.1
    · exact h.elim
  · subst h; intro j ob hj; simp at hj; exact .inr (by simp; omega)
  · split at h
    · split at h
      · subst h; intro j ob hj; simp at hj; exact .inr (by simp; omega)
      · exact h.elim
    · exact h.elim
  · split at h
    · subst h; intro j ob hj; simp at hj
    · split at h
      · subst h; intro j ob hj; simp at hj
      · exact h.elim
    · exact h.elim
  · exact evXN_names h
  · exact h.elim

theorem evO_names {base : Nat} {st : St} {ao : AO} {out : Out} (h : evO P base st ao (· = out)) : NmOk base st out := by
  unfold evO at h
  split at h
  · unfold evU at h
    split at h
    · obtain ⟨_, rfl⟩ := h; intro j ob hj; simp at hj
    · exact evX_names h
  · split at h
    · exact h.elim
    · rename_i gc _
      split at h
      · obtain ⟨_, rfl⟩ := h; intro j ob hj; simp at hj
      · rcases h with h | h
        · unfold callG at h
          split at h
          · obtain ⟨out0, _, ⟨k2, _⟩, rfl⟩ := h; intro j ob hj; simp [k2] at hj
          · exact h.elim
        cases gc with
        | true => exact evX_names (h.1 rfl)
        | false => have := h.2 rfl; subst this; intro j ob hj; simp at hj

theorem aget_asets_none : ∀ (ob : List (Nat × AObj)) (s : List (Nat × AObj)) (k : Nat), aget s k = none → (∀ o, (k, o) ∉ ob) → aget (asets s ob) k = none
  | [], s, k, h, _ => h
  | (j, o) :: r, s, k, h, hn => by
    refine aget_asets_none r (aset s j o) k ?_ (fun o' ho' => hn o' (List.mem_cons_of_mem _ ho'))
    rw [aget_aset]
    have : j ≠ k := by rintro rfl; exact hn o (by simp)
    simp [this, h]

/-- names that are free stay free -/
theorem free_after {base : Nat} {st : St} {out : Out} (hn : NmOk base st out) {k : Nat} (hk : aget st.s.sto k = none) (ho : k < base ∨ base + out.n ≤ k) (d : Option Nat) : aget (st.app d out).s.sto k = none := by
  refine aget_asets_none _ _ _ hk fun o h => ?_
  rcases hn k o h with h | h
  · exact h hk
  · omega

def DstOk (C : Ctx) (ops : Array Oper) : Prop := ∀ (j : Nat) (p : Oper) (d : Nat), ops[j]? = some p → p.dst = some d → d < C.n

theorem resOs_at : ∀ {l : List Oper} {aos : List AO}, resOs P ops l = some aos → l.length = aos.length ∧ ∀ (j : Nat) (o : Oper) (ao : AO), l[j]? = some o → aos[j]? = some ao → resO P ops o = some ao
  | [], aos, h => by simp [resOs] at h; subst h; simp
  | o :: r, aos, h => by
    simp only [resOs] at h
    split at h
    · rename_i a l h1 h2
      simp at h; subst h
      obtain ⟨i1, i2⟩ := resOs_at h2
      refine ⟨by simp [i1], fun j p ao hp ha => ?_⟩
      cases j with
      | zero => simp at hp ha; subst hp; subst ha; exact h1
      | succ j => exact i2 j p ao (by simpa using hp) (by simpa using ha)
    · simp at h

theorem seq_ops {C : Ctx} (hC : C.P = P) (hd : DstOk C ops) {aos : List AO} (hres : resOs P ops ops.toList = some aos) {Q : Exit → Act → World → Prop} {b' : Nat} {st' : St} (m : Nat) :
    ∀ (r : List AO) (i : Nat) (base : Nat) (st : St) (outs : List Out) (Λ : L) (a : Act), aos.drop i = r → Ch P base st r outs b' st' → Rel C Λ st a → Λ.nxt = m → b' ≤ m →
      (∀ k, base ≤ k → k < m → Free Λ k ∧ aget st.s.sto k = none) → (∀ (a' : Act) (Λ' : L), Rel C Λ' st' a' → Λ'.nxt = m → Q .normal a' Λ'.w) → wpOps P ops Q (List.range' i r.length) a Λ.w
  | [], i, base, st, outs, Λ, a, _, hch, hr, hm, _, _, hq => by
    cases outs with
    | nil => obtain ⟨rfl, rfl⟩ := hch; simp only [List.length_nil, List.range'_zero, wpOps]; exact hq a Λ hr hm
    | cons _ _ => exact hch.elim
  | ao :: r, i, base, st, outs, Λ, a, hdrop, hch, hr, hm, hb, hf, hq => by
    cases outs with
    | nil => exact hch.elim
    | cons out os =>
      obtain ⟨h1, h2⟩ := hch
      obtain ⟨hlen, hat⟩ := resOs_at hres
      have hi : i < aos.length := by
        rcases Nat.lt_or_ge i aos.length with h | h
        · exact h
        · rw [List.drop_eq_nil_of_le h] at hdrop; cases hdrop
      have hao : aos[i]? = some ao := by
        have := List.getElem?_drop (xs := aos) (i := i) (j := 0)
        rw [hdrop] at this; simpa using this.symm
      have hopi : i < ops.size := by rw [← Array.length_toList, hlen]; exact hi
      have ho : ops[i]? = some ops[i] := by simp [hopi]
      have hro := hat i ops[i] ao (by simp) hao
      have hle := Ch.le h2
      have hnm := evO_names h1
      simp only [List.length_cons, List.range'_succ]
      rw [wpOps_cons]
      refine (evO_sound ho hro h1 hC hr hd (by omega) (fun k k1 k2 => ?_) fun v Λ' k1 k2 k3 k4 k5 => ?_).2
      · obtain ⟨f1, f2⟩ := hf k k1 (by omega)
        exact ⟨by omega, f1, f2⟩
      · have hdst : ao.dst = ops[i].dst := (evO_sound (next := fun _ _ => True) (Q := Q) ho hro h1 hC hr hd (by omega) (fun k k1 k2 => by
          obtain ⟨f1, f2⟩ := hf k k1 (by omega); exact ⟨by omega, f1, f2⟩) (fun _ _ _ _ _ _ _ => trivial)).1
        have hr' : Rel C Λ' (st.app ao.dst out) (a.put ao.dst v) := hr.step k1 (fun x hx => hd i _ x ho (by rw [← hdst]; exact hx)) k4 k3
        rw [← hdst]
        refine seq_ops hC hd hres m r (i + 1) _ _ os Λ' _ (by rw [← List.drop_drop, hdrop]; rfl) h2 hr' (by omega) hb (fun k k6 k7 => ?_) hq
        obtain ⟨f1, f2⟩ := hf k (by omega) k7
        exact ⟨k5 k f1 f2 (.inl k6), free_after hnm f2 (.inr k6) _⟩

end
end Go.GB


/-
  GbR: regions whose order is drawn: what an operation does depends only on what it reads.
-/
namespace Go.GB

def Ar.slots : Ar → List Nat
  | .s t => [t]
  | .c _ => []
def Ar.slotso : Option Ar → List Nat
  | some x => x.slots
  | none => []
def arsSlots : List Ar → List Nat
  | [] => []
  | x :: r => x.slots ++ arsSlots r
def parts3Slots : List (Nat × Nat × Ar) → List Nat
  | [] => []
  | (_, _, x) :: r => x.slots ++ parts3Slots r
def parts2Slots : List (Nat × Ar) → List Nat
  | [] => []
  | (_, x) :: r => x.slots ++ parts2Slots r

def NOp.slots : NOp → List Nat
  | .lookup _ _ _ _ x k => x.slots ++ k.slots
  | .mupd _ _ x k v => x.slots ++ (k.slots ++ v.slots)
  | .mdel _ _ x k => x.slots ++ k.slots
  | .ment _ _ _ x k => x.slots ++ k.slots
  | .ests x s v => x.slots ++ (s.slots ++ v.slots)
  | .mclr x => x.slots
  | .nxt x => x.slots
  | .ient x => x.slots
  | .xtr _ x y => x.slots ++ y.slots
  | .bad => []
  | .eqn _ x => x.slots
  | .eqst _ _ x y => x.slots ++ y.slots
def AOp.slots : AOp → List Nat
  | .nw op => op.slots
  | .cst _ => []
  | .mv x => x.slots
  | .pick c a b => c.slots ++ (a.slots ++ b.slots)
  | .un _ x => x.slots
  | .bin _ x y => x.slots ++ y.slots
  | .eqb _ x y => x.slots ++ y.slots
  | .eqp _ x => x.slots
  | .eqm _ x => x.slots
  | .conv _ x => x.slots
  | .convs x => x.slots
  | .nilck x => x.slots
  | .fa _ x => x.slots
  | .ld _ _ x => x.slots
  | .ia _ x i => x.slots ++ i.slots
  | .iarr _ _ x i => x.slots ++ i.slots
  | .ixs x i => x.slots ++ i.slots
  | .ixa _ _ _ x i => x.slots ++ i.slots
  | .len x => x.slots
  | .lens x => x.slots
  | .sls x lo hi => x.slots ++ (Ar.slotso lo ++ Ar.slotso hi)
  | .sll _ x lo hi => x.slots ++ (Ar.slotso lo ++ Ar.slotso hi)
  | .fld _ _ _ x => x.slots
  | .maxi x y => x.slots ++ y.slots
  | .mini x y => x.slots ++ y.slots
  | .build _ ps => parts3Slots ps
  | .mkfn _ caps => arsSlots caps
  | .lenm x => x.slots
  | .st _ x v => x.slots ++ v.slots
  | .box _ x => x.slots
  | .alloc _ => []
  | .bsl _ _ _ ps => parts2Slots ps
  | .app _ _ x y => x.slots ++ y.slots
  | .ext x _ => x.slots
  | .mkmap _ _ => []
  | .mrange x => x.slots
  | .mksl _ _ _ n => n.slots
  | .call _ args => arsSlots args
  | .callv x args => x.slots ++ arsSlots args

def AO.reads (ao : AO) : List Nat := (match ao.g with | some (s, _) => [s] | none => []) ++ ao.op.slots

section
variable {P : Program} {st st' : St}

theorem v_congr {x : Ar} (h : ∀ t ∈ x.slots, look st.env t = look st'.env t) : x.v st = x.v st' := by
  cases x with
  | s t => exact h t (by simp [Ar.slots])
  | c v => rfl

theorem u_congr {x : Ar} (h : ∀ t ∈ x.slots, look st.env t = look st'.env t) : x.u st = x.u st' := by unfold Ar.u; rw [v_congr h]

theorem rd_congr {gc : Bool} {x : Ar} (h : ∀ t ∈ x.slots, look st.env t = look st'.env t) : rd gc st x = rd gc st' x := by
  unfold rd; rw [v_congr h]

theorem bnd_congr {gc : Bool} {x : Option Ar} {d : Int} (h : ∀ t ∈ Ar.slotso x, look st.env t = look st'.env t) : bnd x gc st d = bnd x gc st' d := by
  cases x with
  | none => rfl
  | some x => simp only [bnd]; rw [rd_congr (st := st) (st' := st') h]

theorem fillV_congr {gc : Bool} : ∀ {ps : List (Nat × Nat × Ar)} {cs : List V}, (∀ t ∈ parts3Slots ps, look st.env t = look st'.env t) → fillV st gc cs ps = fillV st' gc cs ps
  | [], _, _ => rfl
  | (off, n, x) :: r, cs, h => by
    simp only [fillV]
    rw [rd_congr (st := st) (st' := st') (fun t ht => h t (by simp [parts3Slots, ht]))]
    have ih := fun cs => fillV_congr (gc := gc) (ps := r) (cs := cs) (fun t ht => h t (by simp [parts3Slots, ht]))
    simp only [ih]

theorem capsOf_congr : ∀ {xs : List Ar}, (∀ t ∈ arsSlots xs, look st.env t = look st'.env t) → capsOf st xs = capsOf st' xs
  | [], _ => rfl
  | x :: r, h => by
    simp only [capsOf]
    rw [v_congr (st := st) (st' := st') (fun t ht => h t (by simp [arsSlots, ht])), capsOf_congr (xs := r) (fun t ht => h t (by simp [arsSlots, ht]))]

theorem argsV_congr : ∀ {xs : List Ar}, (∀ t ∈ arsSlots xs, look st.env t = look st'.env t) → argsV st xs = argsV st' xs
  | [], _ => rfl
  | x :: r, h => by
    simp only [argsV]
    rw [u_congr (st := st) (st' := st') (fun t ht => h t (by simp [arsSlots, ht])), argsV_congr (xs := r) (fun t ht => h t (by simp [arsSlots, ht]))]

theorem pureParts_congr {sz : Nat} : ∀ {ps : List (Nat × Ar)} {xs : List (List T)}, (∀ t ∈ parts2Slots ps, look st.env t = look st'.env t) → pureParts st sz xs ps = pureParts st' sz xs ps
  | [], _, _ => rfl
  | (i, x) :: r, xs, h => by
    simp only [pureParts]
    rw [u_congr (st := st) (st' := st') (fun t ht => h t (by simp [parts2Slots, ht]))]
    have ih := fun xs => pureParts_congr (sz := sz) (ps := r) (xs := xs) (fun t ht => h t (by simp [parts2Slots, ht]))
    simp only [ih]

theorem looksE_congr {op : AOp} (h : ∀ t ∈ op.slots, look st.env t = look st'.env t) : looksE st op = looksE st' op := by
  cases op <;> simp only [looksE]
  case ld ag n x => rw [v_congr (st := st) (st' := st') (fun t ht => h t (by simp [AOp.slots, ht]))]
  case nw op =>
    cases op <;> simp only
    case lookup a b c d x k => rw [v_congr (st := st) (st' := st') (fun t ht => h t (by simp [AOp.slots, NOp.slots, ht]))]
    case ient x => rw [v_congr (st := st) (st' := st') (fun t ht => h t (by simp [AOp.slots, NOp.slots, ht]))]

theorem evalE_congr {gc : Bool} {op : AOp} (h : ∀ t ∈ op.slots, look st.env t = look st'.env t) (hs : looksE st op = false ∨ st.s.sto = st'.s.sto) : evalE gc st op = evalE gc st' op := by
  have r1 : ∀ (g : Bool) (x : Ar), (∀ t ∈ x.slots, t ∈ op.slots) → rd g st x = rd g st' x := fun g x hx => rd_congr fun t ht => h t (hx t ht)
  cases op with
  | cst v => rfl
  | mv x => simp only [evalE]; rw [r1 gc x (fun t ht => ht)]
  | pick c a b => simp only [evalE]; rw [r1 gc c (fun t ht => by simp [AOp.slots, ht])]; simp only [r1 _ a (fun t ht => by simp [AOp.slots, ht]), r1 _ b (fun t ht => by simp [AOp.slots, ht])]
  | un op x => cases op <;> simp only [evalE] <;> rw [r1 gc x (fun t ht => ht)]
  | bin op x y => simp only [evalE]; rw [r1 gc x (fun t ht => by simp [AOp.slots, ht]), r1 gc y (fun t ht => by simp [AOp.slots, ht])]
  | eqb op x y => simp only [evalE]; rw [r1 gc x (fun t ht => by simp [AOp.slots, ht]), r1 gc y (fun t ht => by simp [AOp.slots, ht])]
  | eqp op x => simp only [evalE]; rw [r1 gc x (fun t ht => ht)]
  | eqm op x => simp only [evalE]; rw [r1 gc x (fun t ht => ht)]
  | conv k x => simp only [evalE]; rw [r1 gc x (fun t ht => ht)]
  | convs x => simp only [evalE]; rw [r1 gc x (fun t ht => ht)]
  | nilck x => simp only [evalE]; rw [r1 gc x (fun t ht => ht)]
  | fa n x => simp only [evalE]; rw [r1 gc x (fun t ht => ht)]
  | ld ag n x =>
    have hv := v_congr (st := st) (st' := st') (x := x) (fun t ht => h t ht)
    rcases hs with hs | hs
    · simp only [evalE, rd, ← hv]
      simp only [looksE] at hs
      generalize x.v st = y at hs ⊢
      cases y with
      | t z => cases z <;> rfl
      | ptr _ _ => simp [looksV] at hs
      | mp _ => rfl
      | gd c y =>
        cases y with
        | t z => cases z <;> rfl
        | ptr _ _ => simp [looksV] at hs
        | _ => rfl
      | _ => rfl
    · simp only [evalE]; rw [r1 gc x (fun t ht => ht), hs]
  | ia sz x i => simp only [evalE]; rw [r1 gc x (fun t ht => by simp [AOp.slots, ht]), r1 gc i (fun t ht => by simp [AOp.slots, ht])]
  | iarr a b x i => simp only [evalE]; rw [r1 gc x (fun t ht => by simp [AOp.slots, ht]), r1 gc i (fun t ht => by simp [AOp.slots, ht])]
  | ixs x i => simp only [evalE]; rw [r1 gc x (fun t ht => by simp [AOp.slots, ht]), r1 gc i (fun t ht => by simp [AOp.slots, ht])]
  | ixa a b c x i => simp only [evalE]; rw [r1 gc x (fun t ht => by simp [AOp.slots, ht]), r1 gc i (fun t ht => by simp [AOp.slots, ht])]
  | len x => simp only [evalE]; rw [r1 gc x (fun t ht => ht)]
  | lens x => simp only [evalE]; rw [r1 gc x (fun t ht => ht)]
  | sls x lo hi =>
    have b1 := fun d => bnd_congr (st := st) (st' := st') (gc := gc) (x := lo) (d := d) (fun t ht => h t (by simp [AOp.slots, ht]))
    have b2 := fun d => bnd_congr (st := st) (st' := st') (gc := gc) (x := hi) (d := d) (fun t ht => h t (by simp [AOp.slots, ht]))
    simp only [evalE, b1, b2]; rw [r1 gc x (fun t ht => by simp [AOp.slots, ht])]
  | sll a x lo hi =>
    have b1 := fun d => bnd_congr (st := st) (st' := st') (gc := gc) (x := lo) (d := d) (fun t ht => h t (by simp [AOp.slots, ht]))
    have b2 := fun d => bnd_congr (st := st) (st' := st') (gc := gc) (x := hi) (d := d) (fun t ht => h t (by simp [AOp.slots, ht]))
    simp only [evalE, b1, b2]; rw [r1 gc x (fun t ht => by simp [AOp.slots, ht])]
  | fld a b c x => simp only [evalE]; rw [r1 gc x (fun t ht => ht)]
  | maxi x y => simp only [evalE]; rw [r1 gc x (fun t ht => by simp [AOp.slots, ht]), r1 gc y (fun t ht => by simp [AOp.slots, ht])]
  | mini x y => simp only [evalE]; rw [r1 gc x (fun t ht => by simp [AOp.slots, ht]), r1 gc y (fun t ht => by simp [AOp.slots, ht])]
  | build zs ps => simp only [evalE]; rw [fillV_congr (st := st) (st' := st') h]
  | mkfn f caps => simp only [evalE]; rw [capsOf_congr (st := st) (st' := st') h]
  | ext x i => simp only [evalE]; rw [r1 gc x (fun t ht => ht)]
  | nw op =>
    cases op with
    | lookup ks kag zv ok x k =>
      have hk := rd_congr (st := st) (st' := st') (gc := gc) (x := k) (fun t ht => h t (by simp [AOp.slots, NOp.slots, ht]))
      rcases hs with hs | hs
      · have hv := v_congr (st := st) (st' := st') (x := x) (fun t ht => h t (by simp [AOp.slots, NOp.slots, ht]))
        simp only [evalE, evalN, hk]
        simp only [rd, ← hv]
        simp only [looksE] at hs
        generalize x.v st = y at hs ⊢
        cases y with
        | t z => cases z <;> rfl
        | mp _ => simp [looksV] at hs
        | gd c y =>
          cases y with
          | t z => cases z <;> rfl
          | mp _ => simp [looksV] at hs
          | _ => rfl
        | _ => rfl
      · have hx := rd_congr (st := st) (st' := st') (gc := gc) (x := x) (fun t ht => h t (by simp [AOp.slots, NOp.slots, ht]))
        simp only [evalE, evalN]; rw [hx, hk, hs]
    | ient x =>
      rcases hs with hs | hs
      · have hv := v_congr (st := st) (st' := st') (x := x) (fun t ht => h t (by simp [AOp.slots, NOp.slots, ht]))
        simp only [evalE, evalN]
        simp only [rd, ← hv]
        simp only [looksE] at hs
        generalize x.v st = y at hs ⊢
        cases y with
        | ptr _ _ => simp [looksV] at hs
        | gd c y =>
          cases y with
          | ptr _ _ => simp [looksV] at hs
          | _ => rfl
        | _ => rfl
      · have hx := rd_congr (st := st) (st' := st') (gc := gc) (x := x) (fun t ht => h t (by simp [AOp.slots, NOp.slots, ht]))
        simp only [evalE, evalN]; rw [hx, hs]
    | eqn neg x =>
      simp only [evalE, evalN]
      rw [rd_congr (st := st) (st' := st') (gc := gc) (x := x) (fun t ht => h t (by simp [AOp.slots, NOp.slots, ht]))]
    | eqst neg ks x y =>
      simp only [evalE, evalN]
      rw [rd_congr (st := st) (st' := st') (gc := gc) (x := x) (fun t ht => h t (by simp [AOp.slots, NOp.slots, ht])), rd_congr (st := st) (st' := st') (gc := gc) (x := y) (fun t ht => h t (by simp [AOp.slots, NOp.slots, ht]))]
    | xtr cnt x y =>
      simp only [evalE, evalN]
      rw [rd_congr (st := st) (st' := st') (gc := gc) (x := x) (fun t ht => h t (by simp [AOp.slots, NOp.slots, ht])), rd_congr (st := st) (st' := st') (gc := gc) (x := y) (fun t ht => h t (by simp [AOp.slots, NOp.slots, ht]))]
    | _ => rfl
  | lenm x => rfl
  | st n x v => rfl
  | box n x => rfl
  | alloc zs => rfl
  | bsl a b c d => rfl
  | app a b c d => rfl
  | mkmap a b => rfl
  | mrange x => rfl
  | mksl a b c d => rfl
  | call f a => rfl
  | callv x a => rfl

theorem FnEv_congr {f : FuncId} {vs : List V} {base : Nat} {sto sto' : List (Nat × AObj)} {out : Out} (hs : out.rd = false ∨ sto = sto') (h : FnEv P f vs base sto (· = out)) : FnEv P f vs base sto' (· = out) := by
  obtain ⟨o, h1, rfl⟩ := h
  refine ⟨o, ?_, rfl⟩
  rcases hs with hs | hs
  · simp only [hs, Bool.false_eq_true, if_false] at h1 ⊢; exact h1
  · rw [← hs]; exact h1

theorem evX_congr {base : Nat} {op : AOp} {out : Out} (h : ∀ t ∈ op.slots, look st.env t = look st'.env t) (hs : out.rd = false ∨ st.s.sto = st'.s.sto) (he : evX P base st (· = out) op) : evX P base st' (· = out) op := by
  have v1 : ∀ (x : Ar), (∀ t ∈ x.slots, t ∈ op.slots) → x.u st = x.u st' := fun x hx => u_congr fun t ht => h t (hx t ht)
  cases op with
  | st n x v =>
    simp only [evX] at he ⊢
    rw [← v1 x (fun t ht => by simp [AOp.slots, ht]), ← v1 v (fun t ht => by simp [AOp.slots, ht])]
    rcases hs with hs | hs
    · exfalso
      split at he
      · split at he
        · split at he
          · obtain ⟨_, rfl⟩ := he; simp at hs
          · exact he
        · exact he
      · exact he
    · rw [← hs]; exact he
  | box n x => simp only [evX] at he ⊢; rw [← v1 x (fun t ht => ht)]; exact he
  | alloc zs => exact he
  | bsl a b c d => simp only [evX] at he ⊢; rw [← pureParts_congr (st := st) (st' := st') h]; exact he
  | app a b x y =>
    simp only [evX] at he ⊢
    rw [← v1 x (fun t ht => by simp [AOp.slots, ht]), ← v1 y (fun t ht => by simp [AOp.slots, ht])]
    rcases hs with hs | hs
    · generalize (Ar.u st y).cell1 = cy at he ⊢
      generalize Ar.u st x = vx at he ⊢
      cases cy with
      | none => exact he
      | some z =>
        cases z with
        | lst ys =>
          cases vx with
          | nils => exact he
          | own k s xs =>
            exfalso
            simp only at he
            split at he
            · obtain ⟨_, _, _, _, _, rfl⟩ := he; simp at hs
            · exact he
          | _ => exact he
        | _ => exact he
    · rw [← hs]; exact he
  | mksl a b c n => simp only [evX] at he ⊢; rw [← v1 n (fun t ht => ht)]; exact he
  | call f args => simp only [evX] at he ⊢; rw [← argsV_congr (st := st) (st' := st') h]; exact FnEv_congr hs he
  | callv x args =>
    simp only [evX] at he ⊢
    rw [← v1 x (fun t ht => by simp [AOp.slots, ht]), ← argsV_congr (st := st) (st' := st') (fun t ht => h t (by simp [AOp.slots, ht]))]
    generalize Ar.u st x = vx at he ⊢
    cases vx with
    | t z =>
      cases z with
      | fn f => exact FnEv_congr hs he
      | _ => exact he
    | fn f caps => exact FnEv_congr hs he
    | _ => exact he
  | mkmap a b => exact he
  | mrange x =>
    simp only [evX] at he ⊢
    rw [← v1 x (fun t ht => ht)]
    rcases hs with hs | hs
    · exfalso
      split at he
      · split at he
        · subst he; simp at hs
        · exact he
      · exact he
    · rw [← hs]; exact he
  | lenm x =>
    simp only [evX] at he ⊢
    rw [← v1 x (fun t ht => ht)]
    rcases hs with hs | hs
    · exfalso
      split at he
      · subst he; simp at hs
      · split at he
        · subst he; simp at hs
        · exact he
      · exact he
    · rw [← hs]; exact he
  | nw op =>
    have u1 : ∀ (x : Ar), (∀ t ∈ x.slots, t ∈ op.slots) → x.u st = x.u st' := fun x hx => u_congr fun t ht => h t (by simp only [AOp.slots]; exact hx t ht)
    have hrd : out.rd = true := by
      simp only [evX] at he
      unfold evXN at he
      (repeat' split at he) <;> first | exact he.elim | (obtain ⟨_, rfl⟩ := he; rfl) | (subst he; rfl)
    have hs' : st.s.sto = st'.s.sto := by
      rcases hs with hs | hs
      · rw [hrd] at hs; cases hs
      · exact hs
    simp only [evX] at he ⊢
    cases op with
    | mupd ks kag x k v => simp only [evXN] at he ⊢; rw [← u1 x (fun t ht => by simp [NOp.slots, ht]), ← u1 k (fun t ht => by simp [NOp.slots, ht]), ← u1 v (fun t ht => by simp [NOp.slots, ht]), ← hs']; exact he
    | mdel ks kag x k => simp only [evXN] at he ⊢; rw [← u1 x (fun t ht => by simp [NOp.slots, ht]), ← u1 k (fun t ht => by simp [NOp.slots, ht]), ← hs']; exact he
    | mclr x => simp only [evXN] at he ⊢; rw [← u1 x (fun t ht => ht), ← hs']; exact he
    | ment ks kag zv x k => simp only [evXN] at he ⊢; rw [← u1 x (fun t ht => by simp [NOp.slots, ht]), ← u1 k (fun t ht => by simp [NOp.slots, ht]), ← hs']; exact he
    | ests x s v => simp only [evXN] at he ⊢; rw [← u1 x (fun t ht => by simp [NOp.slots, ht]), ← u1 s (fun t ht => by simp [NOp.slots, ht]), ← u1 v (fun t ht => by simp [NOp.slots, ht]), ← hs']; exact he
    | _ => exact he.elim
  | _ => exact he.elim

theorem evO_congr {base : Nat} {ao : AO} {out : Out} (h : ∀ t ∈ ao.reads, look st.env t = look st'.env t) (hs : out.rd = false ∨ st.s.sto = st'.s.sto) (he : evO P base st ao (· = out)) : evO P base st' ao (· = out) := by
  have hop : ∀ t ∈ ao.op.slots, look st.env t = look st'.env t := fun t ht => h t (by simp [AO.reads, ht])
  unfold evO at he ⊢
  cases hg : ao.g with
  | none =>
    simp only [hg] at he ⊢
    unfold evU at he ⊢
    cases hev : evalE true st ao.op with
    | some r =>
      obtain ⟨v, ps⟩ := r
      simp only [hev] at he
      obtain ⟨h1, rfl⟩ := he
      rw [← evalE_congr hop (by simpa using hs), hev]
      simp only
      exact ⟨h1, by rw [looksE_congr (st := st) (st' := st') hop]⟩
    | none =>
      simp only [hev] at he
      have : evalE true st' ao.op = none := by
        by_cases hl : looksE st ao.op = false
        · rw [← evalE_congr hop (.inl hl)]; exact hev
        · -- an operation that looks at objects is not one of evX
          exfalso
          cases hao : ao.op with
          | nw op => rw [hao] at hl he; cases op <;> simp_all [looksE, evX, evXN]
          | _ => simp_all [looksE, evX]
      rw [this]
      exact evX_congr hop hs he
  | some g =>
    obtain ⟨s, want⟩ := g
    simp only [hg] at he ⊢
    rw [← h s (by simp [AO.reads, hg])]
    cases hc : gcond want (look st.env s) with
    | none => simp only [hc] at he
    | some gc =>
      simp only [hc] at he ⊢
      cases hev : evalE gc st ao.op with
      | some r =>
        obtain ⟨v, ps⟩ := r
        simp only [hev] at he
        obtain ⟨h1, rfl⟩ := he
        rw [← evalE_congr hop (by simpa using hs), hev]
        simp only
        exact ⟨h1, by rw [looksE_congr (st := st) (st' := st') hop]⟩
      | none =>
        simp only [hev] at he
        rcases he with he | he
        · have hcg : callG P gc base st' (· = out) ao.op := by
            cases hao : ao.op <;> rw [hao] at he <;> try (exact he.elim)
            rename_i f args
            simp only [callG] at he ⊢
            rw [hao] at hop
            rw [← argsV_congr (st := st) (st' := st') hop]
            obtain ⟨o, h1, h2, rfl⟩ := he
            refine ⟨o, fun hg => ?_, h2, rfl⟩
            have := h1 hg
            rcases hs with hs | hs
            · simp only at hs; simp only [hs, Bool.false_eq_true, if_false] at this ⊢; exact this
            · rw [← hs]; exact this
          have hnone : evalE gc st' ao.op = none := by
            cases hao : ao.op <;> rw [hao] at hcg <;> first | exact hcg.elim | rfl
          rw [hnone]
          exact Or.inl hcg
        cases gc with
        | false =>
          have hout := he.2 rfl
          subst hout
          rw [← evalE_congr hop (by simpa using hs), hev]
          exact Or.inr ⟨by simp, fun _ => by rw [looksE_congr (st := st) (st' := st') hop]⟩
        | true =>
          have hx := he.1 rfl
          have : evalE true st' ao.op = none := by
            by_cases hl : looksE st ao.op = false
            · rw [← evalE_congr hop (.inl hl)]; exact hev
            · exfalso
              cases hao : ao.op with
          | nw op => rw [hao] at hl he; cases op <;> simp_all [looksE, evX, evXN]
          | _ => simp_all [looksE, evX]
          simp only [this]
          exact Or.inr ⟨fun _ => evX_congr hop hs hx, by simp⟩

end
end Go.GB

