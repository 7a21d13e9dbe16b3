/-
  GbN: append, slice literals, make.
-/
import Derived.Test.YticfklecmdjklaaGbM
namespace Go.GB
section
variable {P : Program} {o : Oper} {base : Nat} {st : St}

theorem run_op_append {t ty : TypeId} {x y : Operand} {args : Array Operand} {ats : Array TypeId} {a : Act} {w w' : World} {r : Value} (ho : o.op = .call { callee := .builtin .append, args := args, argTypes := ats }) (hty : o.type = ty)
    (ha : args.toList = [x, y]) (hat : ats.toList = [t, t]) (h : (Builtin.append_ #[t, t] ty #[a.eval x, a.eval y]).run P w = .ok r w') : (execOp a.eval o).run P w = .ok (.value r) w' := by
  have e1 : args.map a.eval = #[a.eval x, a.eval y] := by apply Array.ext'; simp [ha]
  have e2 : ats = #[t, t] := by apply Array.ext'; simp [hat]
  subst e2; subst hty
  simp only [execOp, ho, resolve, Sem.run_bind, Sem.run_pure, Result.andThen_ok, invoke, builtin, e1]
  simp [h]

theorem run_append_zero {t ty e : TypeId} {i : TypeInfo} (ht : P.underlying t = some (.slice e)) (hi : P.info? e = some i) (b : Option Addr) (n cap : Nat) (hn : n ≤ cap) (a : Option Addr) (c : Nat) (w : World) :
    (Builtin.append_ #[t, t] ty #[.slice b n cap, .slice a 0 c]).run P w = .ok (.slice b n cap) w := by
  cases a with
  | none => cases b <;> simp [Builtin.append_, run_underlying ht, sizeOf, typeInfo, hi, Builtin.lenOf, hn, Builtin.firstCells, storeCells]
  | some a =>
    have hl : (loadCells a 0).run P w = .ok #[] w := by
      have := run_loadCells_list (P := P) w a [] (by simp)
      simpa using this
    cases b <;> simp [Builtin.append_, run_underlying ht, sizeOf, typeInfo, hi, Builtin.lenOf, hn, Builtin.firstCells, hl, storeCells]

theorem run_append_room' {t ty e e' : TypeId} {i : TypeInfo} (w : World) (ht : P.underlying t = some (.slice e)) (hi : P.info? e = some i)
    (g sLen sCap : Nat) (cur : Array Value) (hg : w.heap[g]? = some (.cells cur e' (0, 0)))
    (a : Addr) (m c : Nat) (news : List Value) (hl : news.length = m * i.size) (hnews : ∀ j u, news[j]? = some u → w.cell? (a.add j) = some u) (h1 : ∀ u ∈ news, u.oneCell' = true)
    (hroom : sLen + m ≤ sCap) (hfit : sLen * i.size + news.length ≤ cur.size) :
    (Builtin.append_ #[t, t] ty #[.slice (some ⟨g, 0, none⟩) sLen sCap, .slice (some a) m c]).run P w =
      .ok (.slice (some ⟨g, 0, none⟩) (sLen + m) sCap) (w.setRow g (cur.toList.take (sLen * i.size) ++ news ++ cur.toList.drop (sLen * i.size + news.length)).toArray) := by
  have hf := run_firstCells_some (P := P) w i.size m a m c news hl hnews
  have hst := run_storeCells_at P g (sLen * i.size) e' news 0 cur w hg (by simpa using hfit) h1
  simp only [Nat.add_zero] at hst
  simp [Builtin.append_, run_underlying ht, sizeOf, typeInfo, hi, Builtin.lenOf, hroom, hf, Addr.add_lit, hst]

theorem RepT.oneCell {l : Nat → Lab} {w : World} {v : Value} {x : T} (h : RepT l w v x) : v.oneCell' = true := by cases h <;> rfl

/-- what is known of an append's operands -/
structure AppOp (P : Program) (o : Oper) (sz bytes : Nat) (x' y' : Ar) where
  x : Operand
  y : Operand
  args : Array Operand
  ats : Array TypeId
  t : TypeId
  e : TypeId
  inf : TypeInfo
  z : Value
  ho : o.op = .call { callee := .builtin .append, args := args, argTypes := ats }
  ha : args.toList = [x, y]
  hat : ats.toList = [t, t]
  ht : P.underlying t = some (.slice e)
  hi : P.info? e = some inf
  hz : inf.zero = some z
  hs : inf.size = sz
  hb : inf.bytes = bytes
  h0 : 0 < sz
  hzs : z.cells.size = sz
  hx : opA x = some x'
  hy : opA y = some y'

theorem allLen_append {sz : Nat} {xs ys : List (List T)} (hx : ∀ (i : Nat) (c : List T), xs[i]? = some c → c.length = sz) (hy : ∀ (i : Nat) (c : List T), ys[i]? = some c → c.length = sz) :
    ∀ (i : Nat) (c : List T), (xs ++ ys)[i]? = some c → c.length = sz := by
  intro i c h
  by_cases hi : i < xs.length
  · rw [List.getElem?_append_left hi] at h; exact hx i c h
  · rw [List.getElem?_append_right (by omega)] at h; exact hy _ c h

/-- a nil slice grows into a new block of a name k -/
theorem app_nil {sz bytes : Nat} {x' y' : Ar} (A : AppOp P o sz bytes x' y') {C : Ctx} {Λ : L} {a : Act} (hr : Rel C Λ st a) {k : Nat} {ys : List (List T)} (hk : k < Λ.nxt) (hfro : Λ.fro k = 0) (hnil : a.eval A.x = .slice none 0 0)
    (hy : RepT Λ.lab Λ.w (a.eval A.y) (.lst ys)) (hl : ∀ (i : Nat) (c : List T), ys[i]? = some c → c.length = sz) (hroom : ys.length * bytes ≤ 140737488355328) (h63 : ys.length ≤ 9223372036854775807) :
    ∃ v Λ', (execOp a.eval o).run P Λ.w = .ok (.value v) Λ'.w ∧ Kp Λ Λ' ∧ Λ'.nxt = Λ.nxt ∧ RelS Λ' { st.s with sto := aset st.s.sto k (.arr ys.length) } ∧ RelV Λ' v (.own k sz ys) ∧ ∀ j, Free Λ j → j ≠ k → Free Λ' j := by
  by_cases hy0 : ys.length = 0
  · have hys : ys = [] := List.length_eq_zero_iff.1 hy0
    subst hys
    generalize hv : a.eval A.y = u at hy
    have hrun : (execOp a.eval o).run P Λ.w = .ok (.value (.slice none 0 0)) Λ.w := by
      refine run_op_append A.ho rfl A.ha A.hat ?_
      rw [hnil, hv]
      cases hy with
      | lst a' cap _ _ _ _ _ _ _ _ _ _ _ => exact run_append_zero A.ht A.hi none 0 0 (Nat.le_refl _) a' cap Λ.w
    have hkp := Kp.refl Λ
    refine ⟨_, Λ, hrun, hkp, rfl, ?_, .own .nil (by simp) hk (by simp) (fun _ => .inl ⟨rfl, rfl⟩), fun j hj _ => hj⟩
    refine hr.s.step hkp rfl (fun j ob hj => ?_) hr.s.inj hr.s.new hr.s.bnd hr.s.frz
    simp only at hj
    rw [aget_aset] at hj
    split at hj
    · rename_i e; subst e; simp at hj; subst hj; exact .inr ⟨hk, hfro⟩
    · exact .inl ⟨hj, fun _ _ => rfl, rfl⟩
  · obtain ⟨b, off, cap, vs, hv, hcap, hvl, hvc, hvr⟩ := hy.cells hl (by omega) A.h0
    have hrun' := run_append_nil (P := P) Λ.w A.t o.type A.e A.inf A.z A.ht A.hi A.hz ⟨b, off, none⟩ ys.length cap vs (by rw [A.hs]; exact hvl) (fun j u hu => by rw [add_mk]; exact (hvc j u hu).1) (by omega) (by omega) (by rw [A.hb]; omega)
    have hrun := run_op_append (x := A.x) (y := A.y) (a := a) A.ho rfl A.ha A.hat (by rw [hnil, hv]; exact hrun')
    have g := Grew.drewAlloc Λ.w (.cells (vs.toArray ++ Builtin.zeroCells A.z.cells (grownCap Λ.w ys.length 0 A.e - ys.length)) A.e)
    have h1 : Kp Λ { Λ with fro := refro Λ.fro k ys.length } := Kp.refro (by omega)
    obtain ⟨k1, k2, k3⟩ := new_arr (fr := ys.length * sz) hr.s h1 rfl rfl rfl (fun _ => .inl rfl) g hk rfl
    have hge := grownCap_ge Λ.w ys.length 0 A.e
    refine ⟨_, _, hrun, k1, rfl, k2, .own ?_ hl hk (by simp [refro]) (fun _ => .inr ⟨Λ.w.heap.size, _, _, _, rfl, by simp [relab], g.top, ?_, hge⟩), k3⟩
    · refine rep_block (sz := sz) (vs := vs) g.top hge rfl hl (fun o ho => by simp [Rd, relab]; exact ho) (fun j v hj => ?_) hvl (fun j v x h1 h2 => (hvr j v x h1 h2).mono k1.fr)
      rw [Array.getElem?_append_left (by have := (List.getElem?_eq_some_iff.1 hj).1; simpa using this)]; simpa using hj
    · simp only [Array.size_append, List.size_toArray, size_zeroCells, A.hzs, hvl]
      rw [← Nat.add_mul]; congr 1; omega

theorem o_app_nil {sz bytes : Nat} {x' y' : Ar} {ys : List (List T)} (A : AppOp P o sz bytes x' y') (hxv : x'.u st = .nils) (hyv : (y'.u st).cell1 = some (.lst ys)) (hl : allLen sz ys = true) (hroom : ys.length * bytes ≤ 140737488355328) (h63 : ys.length ≤ 9223372036854775807) :
    OSound P o base st { v := .own base sz ys, ob := [(base, .arr ys.length)], n := 1 } := by
  intro C Λ a next Q hC hr hle hfree hnext
  have hx1 := hr.opu A.hx
  rw [hxv] at hx1
  have hnil : a.eval A.x = .slice none 0 0 := by generalize a.eval A.x = u at hx1; cases hx1; rfl
  obtain ⟨hb1, hb2, hb3⟩ := hfree base (Nat.le_refl _) (by simp)
  obtain ⟨v, Λ', h1, h2, h3, h4, h5, h6⟩ := app_nil A hr hb1 hb2.fro hnil ((hr.opu A.hy).cell1 hyv) (allLen_at hl) hroom h63
  unfold Oper.wp
  rw [h1]
  exact hnext v Λ' h2 h3 h4 h5 (fun k hk _ hlt => h6 k hk (by simp at hlt; omega))

theorem o_app_own {sz bytes k : Nat} {x' y' : Ar} {xs ys : List (List T)} (A : AppOp P o sz bytes x' y') (hxv : x'.u st = .own k sz xs) (hk : aget st.s.sto k = some (.arr xs.length)) (hyv : (y'.u st).cell1 = some (.lst ys)) (hl : allLen sz ys = true)
    (hroom : (xs.length + ys.length) * bytes ≤ 140737488355328) (h63 : xs.length + ys.length ≤ 9223372036854775807) :
    OSound P o base st { v := .own k sz (xs ++ ys), ob := [(k, .arr (xs.length + ys.length))], rd := true } := by
  intro C Λ a next Q hC hr hle hfree hnext
  have hx1 := hr.opu A.hx
  rw [hxv] at hx1
  obtain ⟨hkn, hfk⟩ := hr.s.sto k _ hk
  have hfk : Λ.fro k = xs.length := hfk
  have hy1 := (hr.opu A.hy).cell1 hyv
  have hlY := allLen_at hl
  unfold Oper.wp
  generalize hxe : a.eval A.x = vx at hx1
  cases hx1 with
  | own hrep hsz _ _ how =>
  rcases how hfk.symm with ⟨rfl, hx0⟩ | ⟨b, cap, arr, e', hvx, hlb, hhb, hac, hnc⟩
  · have hxs : xs = [] := List.length_eq_zero_iff.1 hx0
    subst hxs
    obtain ⟨v, Λ', h1, h2, h3, h4, h5, h6⟩ := app_nil A hr hkn hfk hxe hy1 hlY (by simpa using hroom) (by simpa using h63)
    rw [h1]
    refine hnext v Λ' h2 h3 (by simpa [S.app, asets] using h4) (by simpa using h5) (fun j hj hn _ => h6 j hj ?_)
    rintro rfl; rw [hk] at hn; simp at hn
  · subst hvx
    by_cases hy0 : ys.length = 0
    · have hys : ys = [] := List.length_eq_zero_iff.1 hy0
      subst hys
      have hrun : (execOp a.eval o).run P Λ.w = .ok (.value (.slice (some ⟨b, 0, none⟩) xs.length cap)) Λ.w := by
        refine run_op_append A.ho rfl A.ha A.hat ?_
        rw [hxe]
        generalize a.eval A.y = u at hy1
        cases hy1 with
        | lst a' cap' _ _ _ _ _ _ _ _ _ _ _ => exact run_append_zero A.ht A.hi _ _ _ hnc a' cap' Λ.w
      rw [hrun]
      refine hnext _ Λ (Kp.refl Λ) rfl ?_ (by simpa using RelV.own hrep hsz hkn (by omega) how) (fun j hj _ _ => hj)
      refine hr.s.step (Kp.refl Λ) rfl (fun j ob hj => ?_) hr.s.inj hr.s.new hr.s.bnd hr.s.frz
      simp only [S.app, asets] at hj
      rw [aget_aset] at hj
      split at hj
      · rename_i e; subst e; simp at hj; subst hj; exact .inr ⟨hkn, hfk⟩
      · exact .inl ⟨hj, fun _ _ => rfl, rfl⟩
    · obtain ⟨yb, yoff, ycap, vs, hv, hcap, hvl, hvc, hvr⟩ := hy1.cells hlY (by omega) A.h0
      have hone : ∀ u ∈ vs, u.oneCell' = true := by
        intro u hu
        obtain ⟨j, hj⟩ := List.mem_iff_getElem?.1 hu
        have hjl := (List.getElem?_eq_some_iff.1 hj).1
        have hfl : j < ys.flatten.length := by rw [flat_len ys hlY]; omega
        exact (hvr j u ys.flatten[j] hj (by simp)).oneCell
      -- the old cells
      have hold : ∃ us : List Value, us.length = xs.length * sz ∧ (∀ (j : Nat) (u : Value), us[j]? = some u → arr[j]? = some u) ∧ ∀ (j : Nat) (u : Value) (x : T), us[j]? = some u → xs.flatten[j]? = some x → RepT Λ.lab Λ.w u x := by
        by_cases hx0 : xs.length = 0
        · exact ⟨[], by simp [hx0], by simp, by simp⟩
        · obtain ⟨b', off', cap', us, e1, e2, e3, e4, e5⟩ := hrep.cells hsz (by omega) A.h0
          simp at e1
          obtain ⟨⟨rfl, rfl⟩, rfl⟩ := e1
          refine ⟨us, e3, fun j u hu => ?_, e5⟩
          have := (e4 j u hu).1
          rw [cell_of_row Λ.w b _ arr e' _ hhb] at this
          simpa using this
      obtain ⟨us, hul, huc, hur⟩ := hold
      have hflat : (xs ++ ys).flatten = xs.flatten ++ ys.flatten := by simp
      have hboth : ∀ (j : Nat) (u : Value) (x : T), (us ++ vs)[j]? = some u → (xs ++ ys).flatten[j]? = some x → RepT Λ.lab Λ.w u x := by
        intro j u x h1 h2
        rw [hflat] at h2
        have hxl := flat_len xs hsz
        by_cases hj : j < us.length
        · rw [List.getElem?_append_left hj] at h1
          rw [List.getElem?_append_left (by omega)] at h2
          exact hur j u x h1 h2
        · rw [List.getElem?_append_right (by omega)] at h1
          rw [List.getElem?_append_right (by omega)] at h2
          rw [hxl, ← hul] at h2
          exact hvr _ u x h1 h2
      by_cases hrm : xs.length + ys.length ≤ cap
      · have hfit : xs.length * A.inf.size + vs.length ≤ arr.size := by
          rw [A.hs, hvl, hac, ← Nat.add_mul]; exact Nat.mul_le_mul_right _ hrm
        have hrun' := run_append_room' (P := P) (ty := o.type) Λ.w A.ht A.hi b xs.length cap arr hhb ⟨yb, yoff, none⟩ ys.length ycap vs (by rw [A.hs]; exact hvl) (fun j u hu => by rw [add_mk]; exact (hvc j u hu).1) hone hrm hfit
        have hrun := run_op_append (x := A.x) (y := A.y) (a := a) A.ho rfl A.ha A.hat (by rw [hxe, hv]; exact hrun')
        rw [hrun]
        rw [A.hs] at hfit ⊢
        have harrL : ∀ j, j < xs.length * sz → (arr.toList.take (xs.length * sz) ++ vs ++ arr.toList.drop (xs.length * sz + vs.length)).toArray[j]? = arr[j]? := by
          intro j hj
          have : (arr.toList.take (xs.length * sz)).length = xs.length * sz := by simp; omega
          simp only [List.getElem?_toArray]
          rw [List.append_assoc, List.getElem?_append_left (by omega), List.getElem?_take, if_pos hj]
          simp
        have hsz2 : (arr.toList.take (xs.length * sz) ++ vs ++ arr.toList.drop (xs.length * sz + vs.length)).toArray.size = cap * sz := by simp; omega
        have hget2 : ∀ (j : Nat) (v : Value), (us ++ vs)[j]? = some v → (arr.toList.take (xs.length * sz) ++ vs ++ arr.toList.drop (xs.length * sz + vs.length)).toArray[j]? = some v := by
          intro j v hj
          by_cases hjl : j < us.length
          · rw [List.getElem?_append_left hjl] at hj
            rw [harrL j (by omega)]; exact huc j v hj
          · rw [List.getElem?_append_right (by omega)] at hj
            have : (arr.toList.take (xs.length * sz)).length = xs.length * sz := by simp; omega
            simp only [List.getElem?_toArray]
            have hjv := (List.getElem?_eq_some_iff.1 hj).1
            rw [List.append_assoc, List.getElem?_append_right (by omega), List.getElem?_append_left (by omega), this, ← hul]; exact hj
        generalize (arr.toList.take (xs.length * sz) ++ vs ++ arr.toList.drop (xs.length * sz + vs.length)).toArray = A2 at *
        obtain ⟨k1, k2, k3⟩ := same_arr (n := xs.length + ys.length) (fr' := (xs.length + ys.length) * sz) hr.s (Wrote.setRow Λ.w b A2) hlb (Nat.mul_le_mul_right _ (by omega)) (fun o ho => by
          rw [cell_setRow_same _ _ _ _ _ _ _ hhb, cell_of_row Λ.w b o arr e' _ hhb]; exact harrL o ho) (by omega) rfl
        refine hnext (.slice (some ⟨b, 0, none⟩) (xs.length + ys.length) cap) _ k1 rfl k2 (.own ?_ (allLen_append hsz hlY) hkn (by simp [refro]) (fun _ => .inr ⟨b, cap, A2, e', by simp, by simp [relab], setRow_heap _ _ _ _ _ _ hhb, hsz2, by simpa using hrm⟩)) (fun j hj _ _ => k3 j hj)
        · exact rep_block (sz := sz) (vs := us ++ vs) (setRow_heap _ _ _ _ _ _ hhb) hrm (by simp) (allLen_append hsz hlY) (fun o ho => by simp [Rd, relab] at ho ⊢; exact ho) hget2 (by simp [hul, hvl, Nat.add_mul]) (fun j v x h1 h2 => (hboth j v x h1 h2).mono k1.fr)
      · have hrun' := run_append_grow (P := P) Λ.w A.t o.type A.e A.inf A.z A.ht A.hi A.hz ⟨b, 0, none⟩ xs.length cap us (by rw [A.hs]; exact hul)
          (fun j u hu => by rw [add_mk, cell_of_row Λ.w b _ arr e' _ hhb, Nat.zero_add]; exact huc j u hu) ⟨yb, yoff, none⟩ ys.length ycap vs (by rw [A.hs]; exact hvl) (fun j u hu => by rw [add_mk]; exact (hvc j u hu).1) (by omega) (by omega)
          (by rw [A.hb]; exact growslice_fits (by omega) hroom)
        have hrun := run_op_append (x := A.x) (y := A.y) (a := a) A.ho rfl A.ha A.hat (by rw [hxe, hv]; exact hrun')
        rw [hrun]
        have g := Grew.drewAlloc Λ.w (.cells (us.toArray ++ vs.toArray ++ Builtin.zeroCells A.z.cells (grownCap Λ.w (xs.length + ys.length) cap A.e - (xs.length + ys.length))) A.e)
        have h1 := Kp.left (n := xs.length + ys.length) hlb (by omega)
        obtain ⟨k1, k2, k3⟩ := new_arr (n := xs.length + ys.length) (fr := (xs.length + ys.length) * sz) hr.s h1 rfl rfl rfl (fun c => by
          by_cases e : c = b
          · subst e; exact .inr ⟨xs.length * sz, some (xs.length * sz), hlb, by simp [relab]⟩
          · exact .inl (by simp [relab, e])) g hkn rfl
        have hge := grownCap_ge Λ.w (xs.length + ys.length) cap A.e
        refine hnext (.slice (some ⟨Λ.w.heap.size, 0, none⟩) (xs.length + ys.length) (grownCap Λ.w (xs.length + ys.length) cap A.e)) _ k1 rfl k2 (.own ?_ (allLen_append hsz hlY) hkn (by simp [refro]) (fun _ => .inr ⟨Λ.w.heap.size, grownCap Λ.w (xs.length + ys.length) cap A.e, _, A.e, by simp, by simp [relab], g.top, ?_, by simpa using hge⟩)) (fun j hj hn _ => k3 j hj ?_)
        · refine rep_block (sz := sz) (vs := us ++ vs) g.top hge (by simp) (allLen_append hsz hlY) (fun o ho => by simp [Rd, relab] at ho ⊢; exact ho) (fun j v hj => ?_) (by simp [hul, hvl, Nat.add_mul]) (fun j v x h1 h2 => (hboth j v x h1 h2).mono k1.fr)
          have hjl := (List.getElem?_eq_some_iff.1 hj).1
          rw [Array.getElem?_append_left (by simpa using hjl)]
          have : (us.toArray ++ vs.toArray)[j]? = (us ++ vs)[j]? := by simp
          rw [this]; exact hj
        · simp only [Array.size_append, List.size_toArray, size_zeroCells, A.hzs, hvl, hul]
          rw [← Nat.add_mul, ← Nat.add_mul]; congr 1; omega
        · rintro rfl; rw [hk] at hn; simp at hn

end
end Go.GB
