/-
  GaG: the operations that only compute, continued: memory read, indices, slices, structs.
-/
import Derived.Test.YticfklecmdjklaaGbE
namespace Go.GB

theorem add_mk (b o n : Nat) : (⟨b, o, none⟩ : Addr).add n = ⟨b, o + n, none⟩ := by
  unfold Addr.add; split
  · rename_i h; subst h; rfl
  · rfl

section
variable {P : Program} {o : Oper} {gc : Bool} {st : St}

theorem run_equal_bool {t : TypeId} (hu : P.underlying t = some .bool) (a b : Bool) (w : World) : (Op.equal t (.bool a) (.bool b)).run P w = .ok (a == b) w := by
  have : ∀ d, (Op.equalIn (d + 1) t (.bool a) (.bool b)).run P w = .ok (a == b) w := fun d => by simp [Op.equalIn, run_underlying hu]
  exact this 9999

theorem e_eqb {neg : Bool} {t ty : TypeId} {x y : Operand} {x' y' : Ar} {a b : Bool} {p1 p2 : List Bool} (hu : P.underlying t = some .bool)
    (ho : o.op = .binOp (if neg then .neq else .eql) t x y ty) (hx : opA x = some x') (hy : opA y = some y')
    (h1 : rd gc st x' = (.t (.bool a), p1)) (h2 : rd gc st y' = (.t (.bool b), p2)) (hp : ∀ q ∈ p1 ++ p2, q) : ESound P o gc st (.t (.bool (if neg then !(a == b) else a == b))) := by
  intro C Λ ac _ hg h
  have hx1 := rd_sound h hx h1 (fun q hq => hp q (by simp [hq])) hg
  have hy1 := rd_sound h hy h2 (fun q hq => hp q (by simp [hq])) hg
  have e1 := hx1.repT.bool_inv
  have e2 := hy1.repT.bool_inv
  refine ⟨_, ?_, .t (.bool _)⟩
  cases neg <;> simp [execOp, ho, e1, e2, eqGuard, binOp, run_equal_bool hu]

theorem e_conv {src dst : TypeId} {x : Operand} {x' : Ar} {k k1 k2 : IntKind} {n : Int} {p : List Bool} (hs : P.underlying src = some (.int k1)) (hd : P.underlying dst = some (.int k))
    (ho : o.op = .convert src dst x) (hx : opA x = some x') (h1 : rd gc st x' = (.t (.int k2 n), p)) (hp : ∀ q ∈ p, q) : ESound P o gc st (.t (.int k (k.wrap n))) := by
  intro C Λ ac _ hg h
  have hx1 := rd_sound h hx h1 hp hg
  have e1 := hx1.repT.int_inv
  exact ⟨_, by simp [execOp, ho, e1, convert, run_underlying hs, run_underlying hd, Conv.intToInt], .t (.int _ _)⟩

theorem e_convs {src dst : TypeId} {x : Operand} {x' : Ar} {v : V} {p : List Bool} (hs : P.underlying src = some .string) (hd : P.underlying dst = some .string)
    (ho : o.op = .convert src dst x) (hx : opA x = some x') (h1 : rd gc st x' = (v, p)) (hp : ∀ q ∈ p, q) (hv : ∃ s, v = .t (.str s)) : ESound P o gc st v := by
  intro C Λ ac _ hg h
  have hx1 := rd_sound h hx h1 hp hg
  obtain ⟨s, rfl⟩ := hv
  have e1 := hx1.repT.str_inv
  exact ⟨.string ⟨⟨s⟩⟩, by simp [execOp, ho, e1, convert, run_underlying hs, run_underlying hd], .t (.str _)⟩

theorem e_nilck {x : Operand} {x' : Ar} {v : V} {p : List Bool} (ho : o.op = .nilCheck x) (hx : opA x = some x') (h1 : rd gc st x' = (v, p)) (hp : ∀ q ∈ p, q)
    (hv : (∃ k n, v = .ptr k n) ∨ (∃ c, v = .t (.ptr c)) ∨ (∃ f, v = .t (.fn f)) ∨ ∃ f c, v = .fn f c) : ESound P o gc st v := by
  intro C Λ ac _ hg h
  have hx1 := rd_sound h hx h1 hp hg
  rcases hv with ⟨k, n, rfl⟩ | ⟨c, rfl⟩ | ⟨f, rfl⟩ | ⟨f, c, rfl⟩
  · generalize hv : ac.eval x = v at hx1
    cases hx1 with
    | ptr hk h' => exact ⟨_, by simp [execOp, ho, hv], .ptr hk h'⟩
  · generalize hv : ac.eval x = v at hx1
    cases hx1 with
    | t h' => cases h' with | ptr _ b o vf a1 a2 a3 => exact ⟨_, by simp [execOp, ho, hv], .t (.ptr _ b o vf a1 a2 a3)⟩
  · generalize hv : ac.eval x = v at hx1
    cases hx1 with
    | t h' => cases h'; exact ⟨_, by simp [execOp, ho, hv], .t (.fn _)⟩
  · generalize hv : ac.eval x = v at hx1
    cases hx1 with
    | fn hs h' => exact ⟨_, by simp [execOp, ho, hv], .fn hs h'⟩

theorem RepT.ptr_drop {l : Nat → Lab} {w : World} {b o n : Nat} {cs : List T} (h : RepT l w (.pointer (some ⟨b, o, none⟩)) (.ptr cs)) : RepT l w (.pointer (some ⟨b, o + n, none⟩)) (.ptr (cs.drop n)) := by
  cases h with
  | ptr _ _ _ vf a1 a2 a3 =>
    refine .ptr _ b (o + n) (fun j => vf (n + j)) (fun j x hj => ?_) (fun j x hj => ?_) (fun j x hj => ?_) <;> rw [List.getElem?_drop] at hj
    · rw [Nat.add_assoc]; exact a1 _ x hj
    · rw [Nat.add_assoc]; exact a2 _ x hj
    · exact a3 _ x hj

theorem RepT.ptr_at {l : Nat → Lab} {w : World} {b o : Nat} {cs : List T} (h : RepT l w (.pointer (some ⟨b, o, none⟩)) (.ptr cs)) (j : Nat) (x : T) (hj : cs[j]? = some x) : ∃ v, w.cell? ⟨b, o + j, none⟩ = some v ∧ RepT l w v x := by
  cases h with
  | ptr _ _ _ vf a1 a2 a3 => exact ⟨vf j, a2 j x hj, a3 j x hj⟩

theorem RepT.ptr_inv {l : Nat → Lab} {w : World} {v : Value} {cs : List T} (h : RepT l w v (.ptr cs)) : ∃ b o, v = .pointer (some ⟨b, o, none⟩) := by
  cases h; exact ⟨_, _, rfl⟩

theorem run_fieldAt {s : TypeId} {fs : Array Field} {f : Nat} {fd : Field} {n : Nat} (hu : P.underlying s = some (.struct fs)) (hf : fs[f]? = some fd) (hn : szOf P fd.type = some n) (h0 : n ≠ 0)
    (b off : Nat) (w : World) : (Instr.fieldAt s (.pointer (some ⟨b, off, none⟩)) f).run P w = .ok (.pointer (some ⟨b, off + fd.offset, none⟩)) w := by
  unfold szOf at hn
  cases hi : P.info? fd.type with
  | none => rw [hi] at hn; simp at hn
  | some i =>
    rw [hi] at hn; simp at hn; subst hn
    simp [Instr.fieldAt, run_underlying hu, hf, Instr.sureAddr, fieldPlace, sizeOf, typeInfo, hi, h0, add_mk]

theorem e_fa {s : TypeId} {x : Operand} {f : Nat} {fs : Array Field} {fd : Field} {n : Nat} {x' : Ar} {v r : V} {p : List Bool} (hu : P.underlying s = some (.struct fs)) (hf : fs[f]? = some fd)
    (hn : szOf P fd.type = some n) (h0 : n ≠ 0) (ho : o.op = .fieldAddr s x f) (hx : opA x = some x') (h1 : rd gc st x' = (v, p)) (hp : ∀ q ∈ p, q)
    (hv : (∃ k m, v = .ptr k m ∧ r = .ptr k (m + fd.offset)) ∨ (∃ c, v = .t (.ptr c) ∧ r = .t (.ptr (c.drop fd.offset)))) : ESound P o gc st r := by
  intro C Λ ac _ hg h
  have hx1 := rd_sound h hx h1 hp hg
  rcases hv with ⟨k, m, rfl, rfl⟩ | ⟨c, rfl, rfl⟩
  · generalize hv : ac.eval x = v at hx1
    cases hx1 with
    | ptr hk h' => exact ⟨_, by simp [execOp, ho, hv, run_fieldAt hu hf hn h0], .ptr hk h'⟩
  · have hr := hx1.repT
    obtain ⟨b, o', hv⟩ := hr.ptr_inv
    rw [hv] at hr
    exact ⟨_, by simp [execOp, ho, hv, run_fieldAt hu hf hn h0], .t hr.ptr_drop⟩

/-- loads -/
theorem run_loadAt_one {t : TypeId} {d : TypeDesc} (hu : P.underlying t = some d) (ha : isAggT P t = false) {b off : Nat} {w : World} {v : Value} (hc : w.cell? ⟨b, off, none⟩ = some v) :
    (Instr.loadAt t (.pointer (some ⟨b, off, none⟩))).run P w = .ok v w := by
  have hagg : (isAgg t).run P w = .ok false w := by
    unfold isAgg
    rw [Sem.run_bind, run_underlying hu w]
    unfold isAggT at ha
    rw [hu] at ha
    cases d <;> simp_all
  simp [Instr.loadAt, Instr.sureAddr, loadVar, hagg, hc]

theorem run_loadAt_agg {t : TypeId} {n : Nat} (hn : szOf P t = some n) (ha : isAggT P t = true) {b off : Nat} {w : World} {vs : List Value} (hl : vs.length = n)
    (hc : ∀ (j : Nat) (v : Value), vs[j]? = some v → w.cell? ⟨b, off + j, none⟩ = some v) :
    (Instr.loadAt t (.pointer (some ⟨b, off, none⟩))).run P w = .ok (.agg vs.toArray) w := by
  have hagg : (isAgg t).run P w = .ok true w := by
    unfold isAgg
    unfold isAggT at ha
    cases hu : P.underlying t with
    | none => rw [hu] at ha; simp at ha
    | some d =>
      rw [hu] at ha
      rw [Sem.run_bind, run_underlying hu w]
      cases d <;> simp_all
  unfold szOf at hn
  cases hi : P.info? t with
  | none => rw [hi] at hn; simp at hn
  | some i =>
    rw [hi] at hn; simp at hn; subst hn
    have hlc : (loadCells ⟨b, off, none⟩ i.size).run P w = .ok vs.toArray w := by
      rw [← hl]
      exact run_loadCells_list (P := P) w ⟨b, off, none⟩ vs (fun j v hv => by rw [add_mk]; exact hc j v hv)
    simp [Instr.loadAt, Instr.sureAddr, loadVar, hagg, sizeOf, typeInfo, hi, hlc]

/-- a list of values chosen cell by cell -/
theorem choose_vals {Q : Nat → Value → Prop} : ∀ (n : Nat), (∀ j, j < n → ∃ v, Q j v) → ∃ vs : List Value, vs.length = n ∧ ∀ (j : Nat) (v : Value), vs[j]? = some v → Q j v
  | 0, _ => ⟨[], rfl, by simp⟩
  | n + 1, h => by
    obtain ⟨vs, hl, hv⟩ := choose_vals n (fun j hj => h j (by omega))
    obtain ⟨v, hq⟩ := h n (by omega)
    refine ⟨vs ++ [v], by simp [hl], fun j u hu => ?_⟩
    by_cases hj : j < vs.length
    · rw [List.getElem?_append_left hj] at hu; exact hv j u hu
    · rw [List.getElem?_append_right (by omega)] at hu
      by_cases e : j = n
      · subst e; rw [hl] at hu; simp at hu; subst hu; exact hq
      · rw [List.getElem?_eq_none (by simp; omega)] at hu; cases hu

theorem e_ld_vp {t : TypeId} {d : TypeDesc} {x : Operand} {x' : Ar} {cs : List T} {c : T} {p : List Bool} (hu : P.underlying t = some d) (ha : isAggT P t = false)
    (ho : o.op = .load t x) (hx : opA x = some x') (h1 : rd gc st x' = (.t (.ptr cs), p)) (hp : ∀ q ∈ p, q) (hc : cs[0]? = some c) : ESound P o gc st (.t c) := by
  intro C Λ ac _ hg h
  have hr := (rd_sound h hx h1 hp hg).repT
  obtain ⟨b, o', hv⟩ := hr.ptr_inv
  rw [hv] at hr
  obtain ⟨u, hu1, hu2⟩ := hr.ptr_at 0 c hc
  exact ⟨u, by simp [execOp, ho, hv, run_loadAt_one hu ha (by simpa using hu1)], .t hu2⟩

theorem e_ld_vpa {t : TypeId} {n : Nat} {x : Operand} {x' : Ar} {cs : List T} {p : List Bool} (hn : szOf P t = some n) (ha : isAggT P t = true)
    (ho : o.op = .load t x) (hx : opA x = some x') (h1 : rd gc st x' = (.t (.ptr cs), p)) (hp : ∀ q ∈ p, q) (hl : n ≤ cs.length) : ESound P o gc st (.agg ((cs.take n).map V.t)) := by
  intro C Λ ac _ hg h
  have hr := (rd_sound h hx h1 hp hg).repT
  obtain ⟨b, off, hv⟩ := hr.ptr_inv
  rw [hv] at hr
  obtain ⟨vs, hvl, hvs⟩ := choose_vals (Q := fun j v => Λ.w.cell? ⟨b, off + j, none⟩ = some v ∧ ∀ c, cs[j]? = some c → RepT Λ.lab Λ.w v c) n (fun j hj => by
    obtain ⟨u, hu1, hu2⟩ := hr.ptr_at j cs[j] (by simp [Nat.lt_of_lt_of_le hj hl])
    exact ⟨u, hu1, fun c hc => by simp [Nat.lt_of_lt_of_le hj hl] at hc; subst hc; exact hu2⟩)
  refine ⟨.agg vs.toArray, by simp [execOp, ho, hv, run_loadAt_agg hn ha hvl (fun j v hj => (hvs j v hj).1)], .agg (by simp [hvl]; omega) fun j u c h2 h3 => ?_⟩
  rw [List.getElem?_map, Option.map_eq_some_iff] at h3
  obtain ⟨c', h4, rfl⟩ := h3
  rw [List.getElem?_take] at h4
  split at h4
  · exact .t ((hvs j u (by simpa using h2)).2 c' h4)
  · cases h4

/-- the cells of an object, as the world has them -/
theorem RelS.objCells {Λ : L} {s : S} (h : RelS Λ s) {k : Nat} {cs : List V} (hk : aget s.sto k = some (.cells cs)) {b : Nat} (hb : Λ.lab b = .obj k) :
    ∃ (arr : Array Value) (e : TypeId), Λ.w.heap[b]? = some (.cells arr e (0, 0)) ∧ arr.size = cs.length ∧ ∀ (j : Nat) (v : Value) (c : V), arr[j]? = some v → cs[j]? = some c → RelV Λ v c := by
  obtain ⟨b', arr, e, h1, h2, h3, h4⟩ := (h.sto k _ hk).2
  obtain rfl := h.inj b b' k hb h1
  exact ⟨arr, e, h2, h3, h4⟩

theorem e_ld_ptr {t : TypeId} {d : TypeDesc} {x : Operand} {x' : Ar} {k off : Nat} {cs : List V} {c : V} {p : List Bool} (hu : P.underlying t = some d) (ha : isAggT P t = false)
    (ho : o.op = .load t x) (hx : opA x = some x') (h1 : rd gc st x' = (.ptr k off, p)) (hp : ∀ q ∈ p, q) (hk : aget st.s.sto k = some (.cells cs)) (hc : cs[off]? = some c) : ESound P o gc st c := by
  intro C Λ ac _ hg h
  have hx1 := rd_sound h hx h1 hp hg
  generalize hv : ac.eval x = v at hx1
  cases hx1 with
  | @ptr b _ _ _ h' =>
    obtain ⟨arr, e, h2, h3, h4⟩ := h.s.objCells hk h'
    have hlt : off < cs.length := (List.getElem?_eq_some_iff.1 hc).1
    have hcell : Λ.w.cell? ⟨b, off, none⟩ = some (arr[off]'(by omega)) := by rw [cell_of_row Λ.w b off arr e _ h2]; simp [h3, hlt]
    exact ⟨arr[off]'(by omega), by simp [execOp, ho, hv, run_loadAt_one hu ha hcell], h4 off _ c (by simp) hc⟩

theorem RelV.subL {Λ : L} {vs : List Value} {cs : List V} (h : ∀ (j : Nat) (v : Value) (c : V), vs[j]? = some v → cs[j]? = some c → RelV Λ v c) (hl : vs.length = cs.length) (off n : Nat) :
    RelV Λ (.agg ((vs.drop off).take n).toArray) (.agg ((cs.drop off).take n)) := by
  refine .agg (by simp [hl]) fun j u c h5 h6 => ?_
  have h5' : ((vs.drop off).take n)[j]? = some u := by simpa using h5
  rw [List.getElem?_take] at h5' h6
  split at h6
  · rename_i hj
    rw [if_pos hj] at h5'
    rw [List.getElem?_drop] at h5' h6
    exact h _ u c h5' h6
  · cases h6

theorem e_ld_ptra {t : TypeId} {n : Nat} {x : Operand} {x' : Ar} {k off : Nat} {cs : List V} {p : List Bool} (hn : szOf P t = some n) (ha : isAggT P t = true)
    (ho : o.op = .load t x) (hx : opA x = some x') (h1 : rd gc st x' = (.ptr k off, p)) (hp : ∀ q ∈ p, q) (hk : aget st.s.sto k = some (.cells cs)) (hl : off + n ≤ cs.length) :
    ESound P o gc st (.agg ((cs.drop off).take n)) := by
  intro C Λ ac _ hg h
  have hx1 := rd_sound h hx h1 hp hg
  generalize hv : ac.eval x = v at hx1
  cases hx1 with
  | @ptr b _ _ _ h' =>
    obtain ⟨arr, e, h2, h3, h4⟩ := h.s.objCells hk h'
    have hvl : ((arr.toList.drop off).take n).length = n := by simp; omega
    have hcell : ∀ (j : Nat) (v : Value), ((arr.toList.drop off).take n)[j]? = some v → Λ.w.cell? ⟨b, off + j, none⟩ = some v := by
      intro j v hj
      rw [List.getElem?_take] at hj
      split at hj
      · rw [List.getElem?_drop] at hj; rw [cell_of_row Λ.w b _ arr e _ h2]; simpa using hj
      · cases hj
    exact ⟨.agg ((arr.toList.drop off).take n).toArray, by simp [execOp, ho, hv, run_loadAt_agg hn ha hvl hcell], RelV.subL (fun j v c e1 e2 => h4 j v c (by simpa using e1) e2) (by simpa using h3) off n⟩

end
end Go.GB
