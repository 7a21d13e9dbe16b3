/-
  YtpagjojfjeanlaaP3: lemmas of this proof (part 3). No conditions.
-/
import Derived.Test.YtpagjojfjeanlaaP2
import Derived.LoopN
import Derived.Scope

/-
  GbP: calls; every operation does what its evaluation says, guards included.
-/
namespace Go.GB
section
variable {P : Program} {ops : Array Oper} {o : Oper} {base : Nat} {st : St}

theorem mapM_opA : ∀ (xs : List Operand) (ys : List Ar), xs.mapM opA = some ys → xs.length = ys.length ∧ ∀ (j : Nat) (x : Operand) (y : Ar), xs[j]? = some x → ys[j]? = some y → opA x = some y := by
  intro xs
  induction xs with
  | nil => intro c h; simp at h; subst h; simp
  | cons d cs ih =>
    intro c h
    simp only [List.mapM_cons, Option.bind_eq_bind, Option.pure_def, Option.bind_eq_some_iff] at h
    obtain ⟨y, hy, c', hc', h⟩ := h
    simp at h; subst h
    obtain ⟨i1, i2⟩ := ih c' hc'
    refine ⟨by simp [i1], fun j e z h1 h2 => ?_⟩
    cases j with
    | zero => simp at h1 h2; subst h1; subst h2; exact hy
    | succ j => exact i2 j e z (by simpa using h1) (by simpa using h2)

theorem argsV_get : ∀ (xs : List Ar) (j : Nat), (argsV st xs)[j]? = (xs[j]?).map (Ar.u st)
  | [], j => by simp [argsV]
  | x :: r, 0 => by simp [argsV]
  | x :: r, j + 1 => by simp [argsV, argsV_get r j]
theorem argsV_len : ∀ (xs : List Ar), (argsV st xs).length = xs.length
  | [] => rfl
  | x :: r => by simp [argsV, argsV_len r]
theorem capsV_get : ∀ (xs : List (Nat × Nat)) (j : Nat), (capsV xs)[j]? = (xs[j]?).map fun c => V.ptr c.1 c.2
  | [], j => by simp [capsV]
  | x :: r, 0 => by simp [capsV]
  | x :: r, j + 1 => by simp [capsV, capsV_get r j]
theorem capsV_len : ∀ (xs : List (Nat × Nat)), (capsV xs).length = xs.length
  | [] => rfl
  | x :: r => by simp [capsV, capsV_len r]

theorem rel_args {C : Ctx} {Λ : L} {a : Act} (hr : Rel C Λ st a) {args : Array Operand} {args' : List Ar} (h : args.toList.mapM opA = some args') :
    (args.map a.eval).size = (argsV st args').length ∧ ∀ (j : Nat) (v : Value) (x : V), (args.map a.eval)[j]? = some v → (argsV st args')[j]? = some x → RelV Λ v x := by
  obtain ⟨h1, h2⟩ := mapM_opA _ _ h
  refine ⟨by simp [argsV_len]; simpa using h1, fun j v x hv hx => ?_⟩
  rw [argsV_get, Option.map_eq_some_iff] at hx
  obtain ⟨y, hy, rfl⟩ := hx
  rw [Array.getElem?_map, Option.map_eq_some_iff] at hv
  obtain ⟨z, hz, rfl⟩ := hv
  exact hr.opu (h2 j z y (by simpa using hz) hy)

theorem o_enter {f : FuncId} {vs : List V} {out : Out} (hf : FnAt P f vs base st.s.sto out)
    (hrun : ∀ (C : Ctx) (Λ : L) (a : Act), Rel C Λ st a → ∃ args : Array Value, (execOp a.eval o).run P Λ.w = .ok (.enter f args) Λ.w ∧ args.size = vs.length ∧ ∀ (j : Nat) (v : Value) (x : V), args[j]? = some v → vs[j]? = some x → RelV Λ v x) :
    OSound P o base st out := by
  intro C Λ a next Q hC hr hle hfree hnext
  obtain ⟨args, h1, h2, h3⟩ := hrun C Λ a hr
  unfold Oper.wp
  rw [h1]
  refine (hf.2.2 Λ args ⟨hr.s.sto, hr.s.inj, hr.s.new, hr.s.bnd, hr.s.frz, hr.s.injF, hr.s.bndF, hr.s.frzF⟩ hle hfree h2 h3).mono fun e w' h => ?_
  obtain ⟨v, Λ', rfl, rfl, k1, k2, k3, k4, k5⟩ := h
  exact hnext v Λ' k1 k2 ⟨k3.sto, k3.inj, k3.new, k3.bnd, k3.frz, k3.injF, k3.bndF, k3.frzF⟩ k4 k5

theorem o_call {f : FuncId} {args : Array Operand} {ats : Array TypeId} {args' : List Ar} {out : Out} (ho : o.op = .call { callee := .value (.func f), args := args, argTypes := ats }) (ha : args.toList.mapM opA = some args')
    (hf : FnAt P f (argsV st args') base st.s.sto out) : OSound P o base st out := by
  refine o_enter hf fun C Λ a hr => ?_
  obtain ⟨h1, h2⟩ := rel_args hr ha
  refine ⟨args.map a.eval, ?_, h1, h2⟩
  have hb := hf.1 (args.map a.eval) Λ.w
  simp only [execOp, ho, resolve, Act.eval, Deferred.ofValue, Sem.run_bind, Sem.run_pure, Result.andThen_ok, invoke]
  simpa using hb

theorem o_callv {f : FuncId} {t : Nat} {args : Array Operand} {ats : Array TypeId} {args' : List Ar} {caps : List (Nat × Nat)} {out : Out} (ho : o.op = .call { callee := .value (.tmp t), args := args, argTypes := ats }) (ha : args.toList.mapM opA = some args')
    (hv : (look st.env t).ug = .fn f caps) (hf : FnAt P f (argsV st args' ++ capsV caps) base st.s.sto out) : OSound P o base st out := by
  refine o_enter hf fun C Λ a hr => ?_
  obtain ⟨h1, h2⟩ := rel_args hr ha
  have ht := (hr.env t).ug
  rw [hv] at ht
  generalize he : a.tmps.getD t undef = u at ht
  cases ht with
  | @fn _ vs _ hs hc =>
    refine ⟨args.map a.eval ++ vs, ?_, by simp [argsV_len, capsV_len] at h1 ⊢; omega, fun j v x hj hx => ?_⟩
    · have hb := hf.1 (args.map a.eval ++ vs) Λ.w
      have he' : a.eval (.tmp t) = .func (.func f) #[] vs := he
      simp only [execOp, ho, resolve, he', Deferred.ofValue, Sem.run_bind, Sem.run_pure, Result.andThen_ok, invoke]
      simpa using hb
    · by_cases hjl : j < (args.map a.eval).size
      · rw [Array.getElem?_append_left hjl] at hj
        rw [List.getElem?_append_left (by omega)] at hx
        exact h2 j v x hj hx
      · rw [Array.getElem?_append_right (by omega)] at hj
        rw [List.getElem?_append_right (by omega), capsV_get, Option.map_eq_some_iff] at hx
        obtain ⟨c, hc1, rfl⟩ := hx
        rw [← h1] at hc1
        obtain ⟨b, e1, e2, e3⟩ := hc _ v c hj hc1
        subst e1
        exact .ptr e3 e2

theorem o_callv0 {f : FuncId} {t : Nat} {args : Array Operand} {ats : Array TypeId} {args' : List Ar} {out : Out} (ho : o.op = .call { callee := .value (.tmp t), args := args, argTypes := ats }) (ha : args.toList.mapM opA = some args')
    (hv : (look st.env t).ug = .t (.fn f)) (hf : FnAt P f (argsV st args') base st.s.sto out) : OSound P o base st out := by
  refine o_enter hf fun C Λ a hr => ?_
  obtain ⟨h1, h2⟩ := rel_args hr ha
  have ht := (hr.env t).ug
  rw [hv] at ht
  have he : a.tmps.getD t undef = .func (.func f) #[] #[] := by
    have := ht.repT
    generalize a.tmps.getD t undef = u at this
    cases this; rfl
  refine ⟨args.map a.eval, ?_, h1, h2⟩
  have hb := hf.1 (args.map a.eval) Λ.w
  have he' : a.eval (.tmp t) = .func (.func f) #[] #[] := he
  simp only [execOp, ho, resolve, he', Deferred.ofValue, Sem.run_bind, Sem.run_pure, Result.andThen_ok, invoke]
  simpa using hb

theorem pall_mem : ∀ {ps : List Bool}, pall ps → ∀ q ∈ ps, q = true
  | [], _, q, h => by simp at h
  | p :: r, h, q, hq => by
    simp only [pall] at h
    cases List.mem_cons.1 hq with
    | inl e => subst e; exact h.1
    | inr e => exact pall_mem h.2 q e

/-- one out of an evaluation -/
theorem evX_step {K : Out → Prop} {aop : AOp} (h : evX P base st K aop) : ∃ out, evX P base st (· = out) aop ∧ K out := by
  unfold evX at h
  split at h
  · split at h
    · split at h
      · split at h
        · rename_i h1 _ _ h2 _ _ h3; refine ⟨_, ?_, h.2⟩; simp only [evX, h1, h2, h3]; exact ⟨h.1, by simp⟩
        · exact h.elim
      · exact h.elim
    · exact h.elim
  · split at h
    · rename_i h1; refine ⟨_, ?_, h.2⟩; simp only [evX, h1]; exact ⟨h.1, by simp⟩
    · exact h.elim
  · exact ⟨_, by simp only [evX], h⟩
  · split at h
    · rename_i ow _ _ _ _ xs h1
      cases ow
      · refine ⟨_, ?_, h.2⟩; simp only [evX, h1]; exact ⟨h.1, by simp⟩
      · obtain ⟨h2, h | h⟩ := h
        · cases xs with
          | nil => refine ⟨_, ?_, h⟩; simp only [evX, h1]; exact ⟨h2, by simp⟩
          | cons y ys => refine ⟨_, ?_, h⟩; simp only [evX, h1]; exact ⟨h2, .inl (by simp)⟩
        · refine ⟨_, ?_, h⟩; simp only [evX, h1]; exact ⟨h2, .inr (by trivial)⟩
    · exact h.elim
  · split at h
    · split at h
      · rename_i h1 _ h2; refine ⟨_, ?_, h.2.2.2⟩; simp only [evX, h1, h2]; exact ⟨h.1, h.2.1, h.2.2.1, by simp⟩
      · split at h
        · rename_i h1 _ _ _ _ h2 _ _ h3; refine ⟨_, ?_, h.2.2.2.2.2⟩; simp only [evX, h1, h2, h3]; exact ⟨h.1, h.2.1, h.2.2.1, h.2.2.2.1, h.2.2.2.2.1, by simp⟩
        · exact h.elim
      · exact h.elim
    · exact h.elim
  · split at h
    · rename_i h1; refine ⟨_, ?_, h.2⟩; simp only [evX, h1]; exact ⟨h.1, by simp⟩
    · exact h.elim
  · obtain ⟨out, h1, h2⟩ := h; exact ⟨out, ⟨out, h1, rfl⟩, h2⟩
  · split at h
    · rename_i h1; obtain ⟨out, h2, h3⟩ := h; refine ⟨out, ?_, h3⟩; simp only [evX, h1]; exact ⟨out, h2, rfl⟩
    · rename_i h1; obtain ⟨out, h2, h3⟩ := h; refine ⟨out, ?_, h3⟩; simp only [evX, h1]; exact ⟨out, h2, rfl⟩
    · exact h.elim
  · exact ⟨_, by simp only [evX], h⟩
  · split at h
    · rename_i h1
      split at h
      · rename_i h2; exact ⟨_, by simp only [evX, h1, h2], h⟩
      · exact h.elim
    · exact h.elim
  · split at h
    · rename_i h1; exact ⟨_, by simp only [evX, h1], h⟩
    · rename_i h1
      split at h
      · rename_i h2; exact ⟨_, by simp only [evX, h1, h2], h⟩
      · exact h.elim
    · exact h.elim
  · rename_i op
    simp only [evX]
    unfold evXN at h
    split at h
    · split at h
      · rename_i h1 h2
        split at h
        · rename_i h3; exact ⟨_, by simp only [evXN, h1, h2, h3]; exact ⟨h.1, by simp⟩, h.2⟩
        · exact h.elim
      · exact h.elim
    · split at h
      · rename_i h1 h2
        split at h
        · rename_i h3; exact ⟨_, by simp only [evXN, h1, h2, h3]; exact ⟨h.1, by simp⟩, h.2⟩
        · exact h.elim
      · exact h.elim
    · split at h
      · rename_i h1
        split at h
        · rename_i h3; exact ⟨_, by simp only [evXN, h1, h3], h⟩
        · exact h.elim
      · exact h.elim
    · split at h
      · rename_i h1 h2
        split at h
        · rename_i h3
          split at h
          · rename_i h4
            split at h
            · rename_i h5 h6; exact ⟨_, by simp only [evXN, h1, h2, h3, h4, h5, h6]; exact ⟨h.1, by simp⟩, h.2⟩
            · exact h.elim
          · rename_i h4; exact ⟨_, by simp only [evXN, h1, h2, h3, h4]; exact ⟨h.1, by simp⟩, h.2⟩
        · exact h.elim
      · exact h.elim
    · split at h
      · rename_i h1 h2
        split at h
        · rename_i h3
          split at h
          · rename_i h4; exact ⟨_, by simp only [evXN, h1, h2, h3, h4], h⟩
          · exact h.elim
        · exact h.elim
      · exact h.elim
    · split at h
      · rename_i h1 h2
        split at h
        · rename_i h3
          split at h
          · rename_i h4; exact ⟨_, by simp only [evXN, h1, h2, h3, h4], h⟩
          · rename_i h4; exact ⟨_, by simp only [evXN, h1, h2, h3, h4], h⟩
          · exact h.elim
        · exact h.elim
      · exact h.elim
    · split at h
      · rename_i h1 h2
        split at h
        · rename_i h3
          split at h
          · rename_i h4; exact ⟨_, by simp only [evXN, h1, h2, h3, h4], h⟩
          · exact h.elim
        · exact h.elim
      · exact h.elim
    · exact h.elim
  · exact h.elim

theorem res_st {n : Nat} {x v : Ar} (h : resOp P ops o = some (.st n x v)) : ∃ t a b, o.op = .store t a b ∧ szOf P t = some n ∧ opA a = some x ∧ opA b = some v := by
  unfold resOp at h
  (repeat' split at h) <;> simp [Option.bind_eq_some_iff] at h
  all_goals try (obtain ⟨_, _, _, _, h⟩ := h; split at h <;> simp [Option.bind_eq_some_iff] at h; done)
  rename_i t a b hop
  obtain ⟨n', hn, a', ha, b', hb, rfl, rfl, rfl⟩ := h
  exact ⟨t, a, b, hop, hn, ha, hb⟩

theorem res_box {n : Nat} {x : Ar} (h : resOp P ops o = some (.box n x)) : ∃ t a, o.op = .box t a ∧ opA a = some x := by
  unfold resOp at h
  (repeat' split at h) <;> simp [Option.bind_eq_some_iff] at h
  all_goals try (obtain ⟨_, _, _, _, h⟩ := h; split at h <;> simp [Option.bind_eq_some_iff] at h; done)
  rename_i t a hop
  obtain ⟨hn, ha⟩ := h
  exact ⟨t, a, hop, ha⟩

theorem res_alloc {zs : List V} (h : resOp P ops o = some (.alloc zs)) : ∃ t, o.op = .alloc t ∧ zerosOf P t = some zs := by
  unfold resOp at h
  (repeat' split at h) <;> simp [Option.bind_eq_some_iff] at h
  all_goals try (obtain ⟨_, _, _, _, h⟩ := h; split at h <;> simp [Option.bind_eq_some_iff] at h; done)
  rename_i t hop
  exact ⟨t, hop, h⟩

theorem res_bsl {ow : Bool} {sz : Nat} {zs : List (List T)} {ps : List (Nat × Ar)} (h : resOp P ops o = some (.bsl ow sz zs ps)) : Nonempty (BslOp P o sz zs ps) := by
  unfold resOp at h
  (repeat' split at h) <;> simp [Option.bind_eq_some_iff] at h
  all_goals try (obtain ⟨_, _, _, _, h⟩ := h; split at h <;> simp [Option.bind_eq_some_iff] at h; done)
  rename_i t n parts hop _ e ht
  obtain ⟨sz', hs, zv, hzv, z, hz, hle, ps', hps, _, rfl, rfl, rfl⟩ := h
  exact ⟨⟨t, e, n, parts, zv, z, hop, ht, hs, hzv, hz, hle, rfl, hps⟩⟩

theorem res_app {sz bytes : Nat} {x y : Ar} (h : resOp P ops o = some (.app sz bytes x y)) : Nonempty (AppOp P o sz bytes x y) := by
  unfold resOp at h
  (repeat' split at h) <;> simp [Option.bind_eq_some_iff] at h
  all_goals try (obtain ⟨_, _, _, _, h⟩ := h; split at h <;> simp [Option.bind_eq_some_iff] at h; done)
  rename_i args ats hop _ _ x' y' t u ha hat htu _ e ht
  obtain ⟨inf, hi, z, hz, hc, a', hx, b', hy, rfl, rfl, rfl, rfl⟩ := h
  subst htu
  exact ⟨⟨x', y', args, ats, t, e, inf, z, hop, ha, hat, ht, hi, hz, rfl, rfl, by omega, by omega, hx, hy⟩⟩

theorem res_mksl {sz bytes : Nat} {z : List V} {n : Ar} (h : resOp P ops o = some (.mksl sz bytes z n)) : ∃ t e l i, o.op = .makeSlice t (.tmp l) (.tmp l) ∧ P.underlying t = some (.slice e) ∧ P.info? e = some i ∧ zerosOf P e = some z ∧ i.size = sz ∧ i.bytes = bytes ∧ n = .s l := by
  unfold resOp at h
  (repeat' split at h) <;> simp [Option.bind_eq_some_iff] at h
  all_goals try (obtain ⟨_, _, _, _, h⟩ := h; split at h <;> simp [Option.bind_eq_some_iff] at h; done)
  rename_i t l c hop _ e ht hlc
  obtain ⟨inf, hi, z', hz, rfl, rfl, rfl, rfl⟩ := h
  subst hlc
  exact ⟨t, e, l, inf, hop, ht, hi, hz, rfl, rfl, rfl⟩

theorem res_call {f : FuncId} {args' : List Ar} (h : resOp P ops o = some (.call f args')) : ∃ args ats, o.op = .call { callee := .value (.func f), args := args, argTypes := ats } ∧ args.toList.mapM opA = some args' := by
  unfold resOp at h
  (repeat' split at h) <;> simp [Option.bind_eq_some_iff] at h
  all_goals try (obtain ⟨_, _, _, _, h⟩ := h; split at h <;> simp [Option.bind_eq_some_iff] at h; done)
  obtain ⟨ha, rfl⟩ := h
  exact ⟨_, _, by assumption, ha⟩

theorem res_callv {x : Ar} {args' : List Ar} (h : resOp P ops o = some (.callv x args')) : ∃ t args ats, o.op = .call { callee := .value (.tmp t), args := args, argTypes := ats } ∧ args.toList.mapM opA = some args' ∧ x = .s t := by
  unfold resOp at h
  (repeat' split at h) <;> simp [Option.bind_eq_some_iff] at h
  all_goals try (obtain ⟨_, _, _, _, h⟩ := h; split at h <;> simp [Option.bind_eq_some_iff] at h; done)
  rename_i t args ats hop
  rcases h with ⟨h1, h2⟩
  first | exact ⟨t, args, ats, hop, h1, h2.symm⟩ | exact ⟨t, args, ats, hop, h2, h1.symm⟩

theorem FnEv_eq {f : FuncId} {vs : List V} {sto : List (Nat × AObj)} {out : Out} (h : FnEv P f vs base sto (· = out)) : FnAt P f vs base sto out := by
  obtain ⟨out', h1, rfl⟩ := h
  split at h1
  · exact h1 sto fun _ _ => rfl
  · exact h1 sto

theorem FnEvS_eq {f : FuncId} {vs : List V} {sto : List (Nat × AObj)} {out : Out} (h : FnEvS P f vs base sto (· = out)) : FnAt P f vs base sto out := by
  obtain ⟨out', h1, rfl⟩ := h
  split at h1
  · exact h1
  · exact h1 sto

theorem res_mkmap {kag vag : Bool} (h : resOp P ops o = some (.mkmap kag vag)) : ∃ t, o.op = .makeMap t none := by
  unfold resOp at h
  (repeat' split at h) <;> simp [Option.bind_eq_some_iff] at h
  all_goals try (obtain ⟨_, _, _, _, h⟩ := h; split at h <;> simp [Option.bind_eq_some_iff] at h; done)
  exact ⟨_, by assumption⟩

theorem res_mrange {x : Ar} (h : resOp P ops o = some (.mrange x)) : ∃ t kt et a, o.op = .range t a ∧ P.underlying t = some (.map kt et) ∧ opA a = some x := by
  unfold resOp at h
  (repeat' split at h) <;> simp [Option.bind_eq_some_iff] at h
  all_goals try (obtain ⟨_, _, _, _, h⟩ := h; split at h <;> simp [Option.bind_eq_some_iff] at h; done)
  exact ⟨_, _, _, _, by assumption, by assumption, h⟩
theorem res_lenm {x : Ar} (h : resOp P ops o = some (.lenm x)) : ∃ args ats t kt et a, o.op = .call { callee := .builtin .len, args := args, argTypes := ats } ∧ args[0]? = some a ∧ ats[0]? = some t ∧ P.underlying t = some (.map kt et) ∧ opA a = some x := by
  unfold resOp at h
  (repeat' split at h) <;> simp [Option.bind_eq_some_iff] at h
  all_goals try (obtain ⟨_, _, _, _, h⟩ := h; split at h <;> simp [Option.bind_eq_some_iff] at h; done)
  exact ⟨_, _, _, _, _, _, by assumption, by assumption, by assumption, by assumption, h⟩

theorem evalN_sound {gc : Bool} {nop : NOp} {v : V} {ps : List Bool} (hres : resN P o = some nop) (he : evalN gc st nop = some (v, ps)) (hp : ∀ q ∈ ps, q) : ESound P o gc st v := by
  unfold resN at hres
  split at hres
  · rename_i t x k ok hop
    split at hres
    · rename_i kt et hu
      simp only [Option.bind_eq_bind, Option.bind_eq_some_iff, Option.some.injEq] at hres
      obtain ⟨⟨ks, kag⟩, h1, zv, h2, x', h3, k', h4, rfl⟩ := hres
      exact e_lookup hop hu h1 h2 h3 h4 he hp
    · cases hres
  · split at hres
    · simp only [Option.bind_eq_bind, Option.bind_eq_some_iff, Option.some.injEq] at hres
      obtain ⟨⟨ks, kag⟩, h1, x', h3, k', h4, v', h5, rfl⟩ := hres
      simp [evalN] at he
    · cases hres
  · split at hres
    · simp only [Option.bind_eq_bind, Option.bind_eq_some_iff, Option.some.injEq] at hres
      obtain ⟨⟨ks, kag⟩, h1, zv, h2, x', h3, k', h4, rfl⟩ := hres
      simp [evalN] at he
    · cases hres
  · simp only [Option.bind_eq_bind, Option.bind_eq_some_iff, Option.some.injEq] at hres
    obtain ⟨_, _, _, _, _, _, rfl⟩ := hres
    simp [evalN] at he
  · rename_i op t x y ty hop
    split at hres
    · rename_i e hu
      split at hres
      · simp only [Option.bind_eq_bind, Option.bind_eq_some_iff, Option.some.injEq] at hres
        obtain ⟨x', h3, rfl⟩ := hres
        exact e_eqn2 (neg := false) (by simpa using hop) rfl hu h3 he hp
      · simp only [Option.bind_eq_bind, Option.bind_eq_some_iff, Option.some.injEq] at hres
        obtain ⟨x', h3, rfl⟩ := hres
        exact e_eqn2 (neg := true) (by simpa using hop) rfl hu h3 he hp
      · cases hres
    · rename_i fs hu
      have kt : ∀ {ks : List KSh} {b : Bool}, keySh P t = some (ks, b) → b = true := by
        intro ks b h
        unfold keySh at h
        rw [hu] at h
        simp only at h
        split at h
        · simp only [Option.map_eq_some_iff, Prod.mk.injEq] at h
          obtain ⟨_, _, _, h⟩ := h
          exact h.symm
        · cases h
      split at hres
      · rename_i ks b hk
        simp only [Option.bind_eq_bind, Option.bind_eq_some_iff, Option.some.injEq] at hres
        obtain ⟨x', h3, y', h4, rfl⟩ := hres
        rw [kt hk] at hk
        exact e_eqst (neg := false) (by simpa using hop) hk h3 h4 he hp
      · rename_i ks b hk
        simp only [Option.bind_eq_bind, Option.bind_eq_some_iff, Option.some.injEq] at hres
        obtain ⟨x', h3, y', h4, rfl⟩ := hres
        rw [kt hk] at hk
        exact e_eqst (neg := true) (by simpa using hop) hk h3 h4 he hp
      · cases hres
    · cases hres
  · split at hres
    · split at hres
      · simp only [Option.bind_eq_bind, Option.bind_eq_some_iff, Option.some.injEq] at hres
        obtain ⟨⟨ks, kag⟩, h1, x', h3, k', h4, rfl⟩ := hres
        simp [evalN] at he
      · cases hres
    · cases hres
  · split at hres
    · split at hres
      · simp only [Option.bind_eq_bind, Option.bind_eq_some_iff, Option.some.injEq] at hres
        obtain ⟨x', h3, rfl⟩ := hres
        simp [evalN] at he
      · split at hres
        · split at hres
          · simp only [Option.some.injEq] at hres
            subst hres
            simp [evalN] at he
          · cases hres
        · cases hres
      · cases hres
    · cases hres
  · simp only [Option.bind_eq_bind, Option.bind_eq_some_iff, Option.some.injEq] at hres
    obtain ⟨x', h3, rfl⟩ := hres
    simp [evalN] at he
  · rename_i x hop
    simp only [Option.bind_eq_bind, Option.bind_eq_some_iff, Option.some.injEq] at hres
    obtain ⟨x', h3, rfl⟩ := hres
    exact e_ient hop h3 he hp
  · rename_i f args ats hop
    split at hres
    · rename_i cnt x y hf ha
      simp only [Option.bind_eq_bind, Option.bind_eq_some_iff, Option.some.injEq] at hres
      obtain ⟨x', h3, y', h4, rfl⟩ := hres
      exact e_xtr hop ha hf h3 h4 he hp
    · rename_i x y hf ha
      simp only [Option.bind_eq_bind, Option.bind_eq_some_iff, Option.some.injEq] at hres
      obtain ⟨x', h3, y', h4, rfl⟩ := hres
      exact e_xcm hop ha hf h3 h4 he hp
    · cases hres
  · rename_i src dst x hop
    split at hres
    · rename_i e hs hd
      split at hres
      · rename_i hu
        simp only [Option.bind_eq_bind, Option.bind_eq_some_iff, Option.some.injEq] at hres
        obtain ⟨x', h3, rfl⟩ := hres
        exact e_bstr hop hs hd hu h3 he hp
      · simp only [Option.some.injEq] at hres
        subst hres
        simp [evalN] at he
    · simp only [Option.some.injEq] at hres
      subst hres
      simp [evalN] at he
  · simp only [Option.some.injEq] at hres
    subst hres
    simp [evalN] at he

theorem evXN_sound {nop : NOp} {out : Out} (hres : resN P o = some nop) (h : evXN st (· = out) nop) : OSound P o base st out := by
  unfold resN at hres
  split at hres
  · split at hres
    · simp only [Option.bind_eq_bind, Option.bind_eq_some_iff, Option.some.injEq] at hres
      obtain ⟨⟨ks, kag⟩, h1, zv, h2, x', h3, k', h4, rfl⟩ := hres
      simp [evXN] at h
    · cases hres
  · rename_i t x k v hop
    split at hres
    · rename_i kt et hu
      simp only [Option.bind_eq_bind, Option.bind_eq_some_iff, Option.some.injEq] at hres
      obtain ⟨⟨ks, kag⟩, h1, x', h3, k', h4, v', h5, rfl⟩ := hres
      simp only [evXN] at h
      split at h
      · rename_i q cs hx hk
        split at h
        · rename_i kag' es sx hes
          obtain ⟨⟨rfl, h6⟩, rfl⟩ := h
          exact o_mupd hop hu h1 h3 h4 h5 hx hk hes h6
        · exact h.elim
      · exact h.elim
    · cases hres
  · rename_i t x k hop
    split at hres
    · rename_i kt et hu
      simp only [Option.bind_eq_bind, Option.bind_eq_some_iff, Option.some.injEq] at hres
      obtain ⟨⟨ks, kag⟩, h1, zv, h2, x', h3, k', h4, rfl⟩ := hres
      simp only [evXN] at h
      split at h
      · rename_i q cs hx hk
        split at h
        · rename_i kag' es c bs hes
          split at h
          · rename_i i hm
            split at h
            · rename_i e b he hb
              obtain ⟨⟨rfl, h6⟩, rfl⟩ := h
              exact (o_ment hop hu h1 h2 h3 h4 hx hk hes h6).1 i e b hm he hb
            · exact h.elim
          · rename_i hm
            obtain ⟨⟨rfl, h6⟩, rfl⟩ := h
            exact (o_ment hop hu h1 h2 h3 h4 hx hk hes h6).2 hm
        · exact h.elim
      · exact h.elim
    · cases hres
  · rename_i t x s v hop
    simp only [Option.bind_eq_bind, Option.bind_eq_some_iff, Option.some.injEq] at hres
    obtain ⟨x', h3, s', h4, v', h5, rfl⟩ := hres
    simp only [evXN] at h
    split at h
    · rename_i q kd z hx hs
      split at h
      · rename_i kag es c bs hes
        split at h
        · rename_i i hi
          subst h
          exact o_ests hop h3 h4 h5 hx hs hes hi
        · exact h.elim
      · exact h.elim
    · exact h.elim
  · split at hres
    · split at hres
      · simp only [Option.bind_eq_bind, Option.bind_eq_some_iff, Option.some.injEq] at hres
        obtain ⟨x', h3, rfl⟩ := hres
        simp [evXN] at h
      · simp only [Option.bind_eq_bind, Option.bind_eq_some_iff, Option.some.injEq] at hres
        obtain ⟨x', h3, rfl⟩ := hres
        simp [evXN] at h
      · cases hres
    · split at hres
      · simp only [Option.bind_eq_bind, Option.bind_eq_some_iff, Option.some.injEq] at hres
        obtain ⟨x', h3, y', h4, rfl⟩ := hres
        simp [evXN] at h
      · simp only [Option.bind_eq_bind, Option.bind_eq_some_iff, Option.some.injEq] at hres
        obtain ⟨x', h3, y', h4, rfl⟩ := hres
        simp [evXN] at h
      · cases hres
    · cases hres
  · rename_i args ats hop
    split at hres
    · rename_i x k ty ha hat
      split at hres
      · rename_i kt et hu
        simp only [Option.bind_eq_bind, Option.bind_eq_some_iff, Option.some.injEq] at hres
        obtain ⟨⟨ks, kag⟩, h1, x', h3, k', h4, rfl⟩ := hres
        simp only [evXN] at h
        split at h
        · rename_i q cs hx hk
          split at h
          · rename_i kag' es sx hes
            obtain ⟨⟨rfl, h6⟩, rfl⟩ := h
            exact o_mdel hop ha hat hu h1 h3 h4 hx hk hes h6
          · exact h.elim
        · exact h.elim
      · cases hres
    · cases hres
  · rename_i args ats hop
    split at hres
    · rename_i x ty ha hat
      split at hres
      · rename_i kt et hu
        simp only [Option.bind_eq_bind, Option.bind_eq_some_iff, Option.some.injEq] at hres
        obtain ⟨x', h3, rfl⟩ := hres
        simp only [evXN] at h
        split at h
        · rename_i q hx
          split at h
          · rename_i kag es sx hes
            subst h
            exact o_mclr hop ha hat hu h3 hx hes
          · exact h.elim
        · exact h.elim
      · split at hres
        · split at hres
          · simp only [Option.some.injEq] at hres
            subst hres
            simp [evXN] at h
          · cases hres
        · cases hres
      · cases hres
    · cases hres
  · simp only [Option.bind_eq_bind, Option.bind_eq_some_iff, Option.some.injEq] at hres
    obtain ⟨x', h3, rfl⟩ := hres
    simp [evXN] at h
  · simp only [Option.bind_eq_bind, Option.bind_eq_some_iff, Option.some.injEq] at hres
    obtain ⟨x', h3, rfl⟩ := hres
    simp [evXN] at h
  · split at hres
    · simp only [Option.bind_eq_bind, Option.bind_eq_some_iff, Option.some.injEq] at hres
      obtain ⟨x', h3, y', h4, rfl⟩ := hres
      simp [evXN] at h
    · simp only [Option.bind_eq_bind, Option.bind_eq_some_iff, Option.some.injEq] at hres
      obtain ⟨x', h3, y', h4, rfl⟩ := hres
      simp [evXN] at h
    · cases hres
  · split at hres
    · split at hres
      · simp only [Option.bind_eq_bind, Option.bind_eq_some_iff, Option.some.injEq] at hres
        obtain ⟨x', h3, rfl⟩ := hres
        simp [evXN] at h
      · simp only [Option.some.injEq] at hres
        subst hres
        simp [evXN] at h
    · simp only [Option.some.injEq] at hres
      subst hres
      simp [evXN] at h
  · simp only [Option.some.injEq] at hres
    subst hres
    simp [evXN] at h

theorem evXK_sound {nop : NOp} {out : Out} (hres : resK P o = some nop) (h : evXN st (· = out) nop) : OSound P o base st out := by
  unfold resK at hres
  split at hres
  · rename_i t x k hop
    split at hres
    · rename_i kt et hu
      split at hres
      · rename_i ha
        simp only [Option.bind_eq_bind, Option.bind_eq_some_iff, Option.some.injEq] at hres
        obtain ⟨ks, h1, zv, h2, x', h3, k', h4, rfl⟩ := hres
        simp only [evXN] at h
        split at h
        · rename_i q cs hx hk
          split at h
          · rename_i es sx hes
            split at h
            · rename_i v hg
              subst h
              exact (o_plook hop hu ha h1 h2 h3 h4 hx hk hes).1 v hg
            · rename_i hg
              subst h
              exact (o_plook hop hu ha h1 h2 h3 h4 hx hk hes).2 hg
            · exact h.elim
          · exact h.elim
        · exact h.elim
      · cases hres
    · cases hres
  · rename_i t x k v hop
    split at hres
    · rename_i kt et hu
      split at hres
      · rename_i ha
        simp only [Option.bind_eq_bind, Option.bind_eq_some_iff, Option.some.injEq] at hres
        obtain ⟨ks, h1, x', h3, k', h4, v', h5, rfl⟩ := hres
        simp only [evXN] at h
        split at h
        · rename_i q cs hx hk
          split at h
          · rename_i es sx hes
            split at h
            · rename_i fs hg
              subst h
              exact o_pupd hop hu ha h1 h3 h4 h5 hx hk hes hg
            · exact h.elim
          · exact h.elim
        · exact h.elim
      · cases hres
    · cases hres
  · cases hres

theorem evX_sound {aop : AOp} {out : Out} (hres : resOp P ops o = some aop) (h : evX P base st (· = out) aop) : OSound P o base st out := by
  unfold evX at h
  split at h
  · obtain ⟨t, a, b, hop, hn, ha, hb⟩ := res_st hres
    split at h
    · rename_i k off hx
      split at h
      · rename_i cs hk
        split at h
        · rename_i vs hvs
          obtain ⟨⟨h1, h2⟩, rfl⟩ := h
          exact o_store hop hn ha hb hx hk hvs (of_decide_eq_true h1) h2
        · exact h.elim
      · exact h.elim
    · exact h.elim
  · obtain ⟨t, a, hop, ha⟩ := res_box hres
    split at h
    · rename_i vs hvs
      obtain ⟨_, rfl⟩ := h
      exact o_box (n := 0) hop ha hvs
    · exact h.elim
  · obtain ⟨t, hop, hz⟩ := res_alloc hres
    subst h
    exact o_alloc hop hz
  · obtain ⟨B⟩ := res_bsl hres
    split at h
    · rename_i hx
      obtain ⟨_, h⟩ := h
      split at h
      · rcases h with h | h
        · split at h
          · next he => subst h; exact o_bsl_nil B hx (by simpa using he)
          · subst h; exact o_bsl_own B hx
        · subst h; exact o_bsl B hx
      · subst h; exact o_bsl B hx
    · exact h.elim
  · obtain ⟨A⟩ := res_app hres
    split at h
    · rename_i ys hy
      split at h
      · rename_i hx
        obtain ⟨h1, h2, h3, rfl⟩ := h
        exact o_app_nil A hx hy h1 h2 h3
      · rename_i k s xs hx
        split at h
        · rename_i n hk
          obtain ⟨rfl, rfl, h1, h2, h3, rfl⟩ := h
          exact o_app_own A hx hk hy h1 h2 h3
        · exact h.elim
      · exact h.elim
    · exact h.elim
  · obtain ⟨t, e, l, i, hop, ht, hi, hz, rfl, rfl, rfl⟩ := res_mksl hres
    split at h
    · rename_i m hm
      obtain ⟨⟨h1, h2, h3, h4⟩, rfl⟩ := h
      exact o_mksl hop ht hi hz hm h1 h2 h3
    · exact h.elim
  · obtain ⟨args, ats, hop, ha⟩ := res_call hres
    exact o_call hop ha (FnEv_eq h)
  · obtain ⟨t, args, ats, hop, ha, rfl⟩ := res_callv hres
    split at h
    · rename_i f hv; exact o_callv0 hop ha hv (FnEvS_eq h)
    · rename_i f caps hv; exact o_callv hop ha hv (FnEvS_eq h)
    · exact h.elim
  · obtain ⟨t, hop⟩ := res_mkmap hres
    subst h
    exact o_mkmap hop
  · obtain ⟨t, kt, et, a, hop, hu, hx⟩ := res_mrange hres
    split at h
    · rename_i q hv
      split at h
      · rename_i kag es c bs hes
        subst h
        exact o_mrange hop hu hx hv hes
      · exact h.elim
    · exact h.elim
  · obtain ⟨args, ats, t, kt, et, a, hop, ha, hat, hu, hx⟩ := res_lenm hres
    split at h
    · rename_i hv
      subst h
      exact o_lenm (n := 0) hop ha hat hu hx (.inl ⟨hv, rfl⟩)
    · rename_i q hv
      split at h
      · rename_i kag es sx hes
        subst h
        exact o_lenm hop ha hat hu hx (.inr ⟨q, kag, es, sx, hv, hes, rfl⟩)
      · exact h.elim
    · exact h.elim
  · exfalso
    unfold resOp at hres
    (repeat' split at hres) <;> simp [Option.bind_eq_some_iff] at hres
    all_goals try (obtain ⟨_, _, _, _, hres⟩ := hres; split at hres <;> simp [Option.bind_eq_some_iff] at hres; done)
  · exact h.elim

theorem all_cases {aop : AOp} (h : resAll P ops o = some aop) : resOp P ops o = some aop ∨ ∃ nop, aop = .nw nop ∧ (resN P o = some nop ∨ resK P o = some nop) := by
  unfold resAll at h
  split at h
  · rename_i x hx; simp at h; subst h; exact .inl hx
  · split at h
    · rename_i n hn; simp at h; subst h; exact .inr ⟨_, rfl, .inl hn⟩
    · simp only [Option.map_eq_some_iff] at h
      obtain ⟨nop, h1, rfl⟩ := h
      exact .inr ⟨nop, rfl, .inr h1⟩
theorem resK_kind {nop : NOp} (h : resK P o = some nop) : (∃ ks zv x k, nop = .plook ks zv x k) ∨ ∃ ks x k v, nop = .pupd ks x k v := by
  unfold resK at h
  (repeat' split at h) <;> simp [Option.bind_eq_some_iff] at h
  · obtain ⟨_, _, _, _, _, _, _, _, rfl⟩ := h; exact .inl ⟨_, _, _, _, rfl⟩
  · obtain ⟨_, _, _, _, _, _, _, _, rfl⟩ := h; exact .inr ⟨_, _, _, _, rfl⟩
theorem res_all_op {aop : AOp} (h : resAll P ops o = some aop) (hn : ∀ nop, aop ≠ .nw nop) : resOp P ops o = some aop := by
  rcases all_cases h with h' | ⟨nop, h0, _⟩
  · exact h'
  · exact absurd h0 (hn nop)
theorem res_sclr {sz : Nat} {z : List V} {x : Ar} (h : resAll P ops o = some (.nw (.sclr sz z x))) : ∃ ty e a args ats, o.op = .call { callee := .builtin .clear, args := args, argTypes := ats } ∧ args.toList = [a] ∧ ats[0]? = some ty ∧ P.underlying ty = some (.slice e) ∧
    szOf P e = some sz ∧ zerosOf P e = some z ∧ z.all V.cellOk = true ∧ opA a = some x := by
  rcases all_cases h with h' | ⟨nop, h0, h'⟩
  · exfalso
    unfold resOp at h'
    (repeat' split at h') <;> simp [Option.bind_eq_some_iff] at h'
    all_goals try (obtain ⟨_, _, _, _, h'⟩ := h'; split at h' <;> simp [Option.bind_eq_some_iff] at h'; done)
  · injection h0 with h0
    subst h0
    rcases h' with h' | h'
    rotate_left
    · rcases resK_kind h' with ⟨_, _, _, _, e⟩ | ⟨_, _, _, _, e⟩ <;> cases e
    unfold resN at h'
    (repeat' split at h') <;> simp [Option.bind_eq_some_iff] at h'
    obtain ⟨rfl, rfl, rfl⟩ := h'
    exact ⟨_, _, _, _, _, by assumption, by assumption, by assumption, by assumption, by assumption, by assumption, by assumption, by assumption⟩

theorem evY_sound {aop : AOp} {out : Out} (hres : resAll P ops o = some aop) (h : YOut st base aop out) : OSound P o base st out := by
  cases h with
  | stG hx hk hw hv hn ho hc =>
    obtain ⟨t, a, b, hop, hs, ha, hb⟩ := res_st (res_all_op hres (by simp))
    exact o_stG hop hs ha hb hx hk hw hv hn ho hc
  | stF hx hk hi hv hn ho hc =>
    obtain ⟨t, a, b, hop, hs, ha, hb⟩ := res_st (res_all_op hres (by simp))
    exact o_stF hop hs ha hb hx hk hi hv hn ho hc
  | boxF hk hv hn hc =>
    obtain ⟨t, a, hop, ha⟩ := res_box (res_all_op hres (by simp))
    exact o_boxF hop ha hv hk
  | allocF hk =>
    obtain ⟨t, hop, hz⟩ := res_alloc (res_all_op hres (by simp))
    exact o_allocF hop hz hk
  | appF hx hy hk hi hl h1 h2 =>
    obtain ⟨A⟩ := res_app (res_all_op hres (by simp))
    exact o_appF A hx hk hi hy hl h1 h2
  | appN hx hy hc h1 h2 =>
    obtain ⟨A⟩ := res_app (res_all_op hres (by simp))
    exact o_appN A hx hy h1 h2
  | appG hx hk hw hl hy hc h1 h2 =>
    obtain ⟨A⟩ := res_app (res_all_op hres (by simp))
    exact o_appG A hx hk hw hl hy hc h1 h2
  | bslO h =>
    obtain ⟨B⟩ := res_bsl (res_all_op hres (by simp))
    exact o_bslO B h
  | bslF h hk h0 =>
    obtain ⟨B⟩ := res_bsl (res_all_op hres (by simp))
    exact o_bslF B h hk h0
  | clrG hx hk hw ho =>
    obtain ⟨ty, e, a, args, ats, hop, ha, hat, hu, hs, hz, hzc, hx'⟩ := res_sclr hres
    exact o_clrG hop ha hat hu hs hz hzc hx' hx hk hw ho

theorem evalE_all {gc : Bool} {aop : AOp} {v : V} {ps : List Bool} (hres : resAll P ops o = some aop) (he : evalE gc st aop = some (v, ps)) (hp : ∀ q ∈ ps, q) : ESound P o gc st v := by
  rcases all_cases hres with h | ⟨nop, rfl, h | h⟩
  · exact evalE_sound h he hp
  · exact evalN_sound h he hp
  · rcases resK_kind h with ⟨_, _, _, _, rfl⟩ | ⟨_, _, _, _, rfl⟩ <;> simp [evalE, evalN] at he
theorem evX_all {aop : AOp} {out : Out} (hres : resAll P ops o = some aop) (h : evX P base st (· = out) aop ∨ evY base st (· = out) aop) : OSound P o base st out := by
  rcases h with h | ⟨out', h, rfl⟩
  · rcases all_cases hres with h' | ⟨nop, rfl, h' | h'⟩
    · exact evX_sound h' h
    · exact evXN_sound h' h
    · exact evXK_sound h' h
  · exact evY_sound hres h
theorem evXY_step {K : Out → Prop} {aop : AOp} (h : evX P base st K aop ∨ evY base st K aop) : ∃ out, (evX P base st (· = out) aop ∨ evY base st (· = out) aop) ∧ K out := by
  rcases h with h | ⟨out, h1, h2⟩
  · obtain ⟨out, h1, h2⟩ := evX_step h
    exact ⟨out, .inl h1, h2⟩
  · exact ⟨out, .inr ⟨out, h1, rfl⟩, h2⟩
theorem res_call_all {f : FuncId} {args' : List Ar} (h : resAll P ops o = some (.call f args')) : ∃ args ats, o.op = .call { callee := .value (.func f), args := args, argTypes := ats } ∧ args.toList.mapM opA = some args' := by
  rcases all_cases h with h' | ⟨nop, h0, h'⟩
  · exact res_call h'
  · cases h0

theorem callG_step {gc : Bool} {K : Out → Prop} {aop : AOp} (h : callG P gc base st K aop) : ∃ out, callG P gc base st (· = out) aop ∧ K out := by
  unfold callG at h ⊢
  split at h
  · obtain ⟨out, h1, h2, h3⟩ := h
    exact ⟨_, ⟨out, h1, h2, rfl⟩, h3⟩
  · exact h.elim

theorem evO_step {ao : AO} {K : Out → Prop} (h : evO P base st ao K) : ∃ out, evO P base st ao (· = out) ∧ K out := by
  unfold evO at h
  split at h
  · rename_i hg
    unfold evU at h
    split at h
    · rename_i v ps he
      refine ⟨_, ?_, h.2⟩
      simp only [evO, hg, evU, he]; exact ⟨h.1, by simp⟩
    · rename_i he
      obtain ⟨out, h1, h2⟩ := evXY_step h
      refine ⟨out, ?_, h2⟩
      simp only [evO, hg, evU, he]; exact h1
  · rename_i s want hg
    split at h
    · exact h.elim
    · rename_i gc hc
      split at h
      · rename_i v ps he
        refine ⟨_, ?_, h.2⟩
        simp only [evO, hg, hc, he]; exact ⟨h.1, by simp⟩
      · rename_i he
        rcases h with h | h
        · obtain ⟨out, h1, h2⟩ := callG_step h
          refine ⟨out, ?_, h2⟩
          simp only [evO, hg, hc, he]; exact Or.inl h1
        cases gc with
        | true =>
          obtain ⟨out, h1, h2⟩ := evXY_step (h.1 rfl)
          refine ⟨out, ?_, h2⟩
          simp only [evO, hg, hc, he]; exact Or.inr ⟨fun _ => h1, by simp⟩
        | false =>
          refine ⟨_, ?_, h.2 rfl⟩
          simp only [evO, hg, hc, he]; exact Or.inr ⟨by simp, fun _ => by simp⟩

theorem yielded_bool {C : Ctx} {Λ : L} {a : Act} (hr : Rel C Λ st a) {j s : Nat} (hj : (ops[j]?).bind (·.dst) = some s) {want gc : Bool} (hg : gcond want (look st.env s) = some gc) (hlt : s < C.n) :
    (yielded ops a.tmps j == some want) = gc := by
  have hs := hr.env s
  have hget : a.tmps[s]? = some (a.tmps.getD s undef) := by
    rw [Array.getD_eq_getD_getElem?]
    rw [Array.getElem?_eq_getElem (by rw [hr.size]; exact hlt)]
    simp
  unfold yielded
  rw [hj]
  simp only [Option.bind_some, hget]
  generalize a.tmps.getD s undef = u at hs
  unfold gcond at hg
  split at hg
  · rename_i b hl
    rw [hl] at hs
    have := hs.repT.bool_inv
    subst this
    simp at hg; subst hg
    cases b <;> cases want <;> rfl
  · rename_i c b hl
    rw [hl] at hs
    simp at hg
    cases hs with
    | gd h1 h2 =>
      cases c with
      | true =>
        have := (h1 rfl).repT.bool_inv
        subst this; subst hg
        cases b <;> cases want <;> rfl
      | false =>
        have := h2 rfl
        subst this; subst hg
        cases b <;> cases want <;> rfl
  · rename_i hl
    rw [hl] at hs
    simp at hg; subst hg
    cases hs with
    | gd h1 h2 =>
      have := h2 rfl
      subst this
      cases want <;> rfl
  · simp at hg

/-- an operation of a region, guard and all -/
theorem evO_sound {ao : AO} {out : Out} {i : Nat} (ho : ops[i]? = some o) (hres : resO P ops o = some ao) (h : evO P base st ao (· = out)) {C : Ctx} {Λ : L} {a : Act} {next : Act → World → Prop} {Q : Exit → Act → World → Prop} (hC : C.P = P) (hr : Rel C Λ st a)
    (hdst : ∀ (j : Nat) (p : Oper) (d : Nat), ops[j]? = some p → p.dst = some d → d < C.n)
    (hle : base + out.n ≤ Λ.nxt) (hfree : ∀ k, base ≤ k → k < base + out.n → k < Λ.nxt ∧ Free Λ k ∧ aget st.s.sto k = none)
    (hnext : ∀ v Λ', Kp Λ Λ' → Λ'.nxt = Λ.nxt → RelS Λ' (st.s.app out) → RelV Λ' v out.v → (∀ k, Free Λ k → aget st.s.sto k = none → (base + out.n ≤ k ∨ (k < base ∧ out.rd = false)) → Free Λ' k) → next (a.put o.dst v) Λ'.w) :
    ao.dst = o.dst ∧ wpOp P ops Q i next a Λ.w := by
  unfold resO at hres
  split at hres
  · simp at hres
  · rename_i aop hop
    split at hres
    · rename_i hg
      simp at hres; subst hres
      refine ⟨rfl, ?_⟩
      have hw : Region.wanted o (yielded ops a.tmps) = true := by simp [Region.wanted, hg]
      simp only [wpOp, ho, hw, if_true]
      refine .inl ?_
      simp only [evO, evU] at h
      split at h
      · rename_i v ps he
        obtain ⟨h1, rfl⟩ := h
        exact OSound.of_E (evalE_all hop he (pall_mem h1)) C Λ a next Q hC hr hle hfree hnext
      · exact evX_all hop h C Λ a next Q hC hr hle hfree hnext
    · rename_i j want hg
      split at hres
      · rename_i s hs
        simp at hres; subst hres
        refine ⟨rfl, ?_⟩
        simp only [evO] at h
        split at h
        · exact h.elim
        · rename_i gc hc
          have hlt : s < C.n := by
            cases hop' : ops[j]? with
            | none => rw [hop'] at hs; simp at hs
            | some p => rw [hop'] at hs; exact hdst j p s hop' (by simpa using hs)
          have hy := yielded_bool hr hs hc hlt
          have hw : Region.wanted o (yielded ops a.tmps) = gc := by simp only [Region.wanted, hg]; exact hy
          simp only [wpOp, ho, hw]
          split at h
          · rename_i v ps he
            obtain ⟨h1, rfl⟩ := h
            cases gc with
            | true =>
              simp only [if_true]
              refine .inl ?_
              have hps : ∀ q ∈ ps, q = true := by
                intro q hq
                have := pall_mem h1 (!true || q) (List.mem_map.2 ⟨q, hq, rfl⟩)
                simpa using this
              refine OSound.of_E (r := looksE st aop) (evalE_all hop he hps) C Λ a next Q hC hr (by simp at hle ⊢; omega) (fun k h1 h2 => by simp at h2; omega) fun v' Λ' a1 a2 a3 a4 a5 => hnext v' Λ' a1 a2 a3 (.gd (fun _ => a4) (by simp)) a5
            | false =>
              simp only [Bool.false_eq_true, if_false]
              exact hnext undef Λ (Kp.refl _) rfl hr.s (.gd (by simp) (fun _ => rfl)) (fun _ h _ _ => h)
          · rcases h with h | h
            · unfold callG at h
              split at h
              · rename_i fid args0 _
                obtain ⟨out0, k1, ⟨k2, k3⟩, rfl⟩ := h
                obtain ⟨args, ats, hop', ha⟩ := res_call_all hop
                cases gc with
                | true =>
                  simp only [if_true]
                  have hf : FnAt P fid (argsV st args0) base st.s.sto out0 := by
                    have := k1 rfl
                    split at this
                    · exact this
                    · exact this _
                  have hso : OSound P o base st out0 := o_call hop' ha hf
                  refine .inl (hso C Λ a next Q hC hr hle hfree fun v' Λ' a1 a2 a3 a4 a5 => hnext v' Λ' a1 a2 a3 (.gd (fun _ => a4) (by simp)) a5)
                | false =>
                  simp only [Bool.false_eq_true, if_false]
                  refine hnext undef Λ (Kp.refl _) rfl ?_ (.gd (by simp) (fun _ => rfl)) (fun _ h _ _ => h)
                  simp only [S.app, k2, asets]
                  exact hr.s
              · exact h.elim
            cases gc with
            | true =>
              simp only [if_true]
              exact .inl (evX_all hop (h.1 rfl) C Λ a next Q hC hr hle hfree hnext)
            | false =>
              simp only [Bool.false_eq_true, if_false]
              have := h.2 rfl
              subst this
              exact hnext undef Λ (Kp.refl _) rfl hr.s (.gd (by simp) (fun _ => rfl)) (fun _ h _ _ => h)
      · simp at hres

end
end Go.GB


/-
  GbQ: regions in the order of the text.
-/
namespace Go.GB
section
variable {P : Program} {ops : Array Oper}

/-- a region evaluated: what each operation does -/
def Ch (P : Program) : Nat → St → List AO → List Out → Nat → St → Prop
  | base, st, [], [], b', s' => b' = base ∧ s' = st
  | base, st, ao :: r, out :: os, b', s' => evO P base st ao (· = out) ∧ Ch P (base + out.n) (st.app ao.dst out) r os b' s'
  | _, _, _, _, _, _ => False

def flags : List Out → List (Bool × Bool)
  | [] => []
  | o :: r => (o.rd, !o.ob.isEmpty || decide (0 < o.n)) :: flags r

theorem evR_chain : ∀ {aos : List AO} {base : Nat} {st : St} {fl : List (Bool × Bool)} {K : Nat → St → List (Bool × Bool) → Prop}, evR P base st aos fl K → ∃ outs b' st', Ch P base st aos outs b' st' ∧ K b' st' (fl ++ flags outs)
  | [], base, st, fl, K, h => ⟨[], base, st, ⟨rfl, rfl⟩, by simpa [flags, evR] using h⟩
  | ao :: r, base, st, fl, K, h => by
    obtain ⟨out, h1, h2⟩ := evO_step h
    obtain ⟨outs, b', st', h3, h4⟩ := evR_chain h2
    exact ⟨out :: outs, b', st', ⟨h1, h3⟩, by simpa [flags] using h4⟩

theorem Ch.le : ∀ {aos : List AO} {base : Nat} {st : St} {outs : List Out} {b' : Nat} {s' : St}, Ch P base st aos outs b' s' → base ≤ b'
  | [], _, _, [], _, _, h => by rw [h.1]; exact Nat.le_refl _
  | _ :: r, _, _, _ :: os, _, _, h => by have := Ch.le h.2; omega
  | [], _, _, _ :: _, _, _, h => h.elim
  | _ :: _, _, _, [], _, _, h => h.elim

/-- names of what an operation sets -/
def NmOk (base : Nat) (st : St) (out : Out) : Prop := ∀ k o, (k, o) ∈ out.ob → aget st.s.sto k ≠ none ∨ (base ≤ k ∧ k < base + out.n)

theorem evXN_names {base : Nat} {st : St} {op : NOp} {out : Out} (h : evXN st (· = out) op) : NmOk base st out := by
  unfold evXN at h
  split at h
  · split at h
    · split at h
      · rename_i hk
        obtain ⟨_, rfl⟩ := h; intro j ob hj; simp at hj; rw [hj.1, hk]; exact .inl (by simp)
      · exact h.elim
    · exact h.elim
  · split at h
    · split at h
      · rename_i hk
        obtain ⟨_, rfl⟩ := h; intro j ob hj; simp at hj; rw [hj.1, hk]; exact .inl (by simp)
      · exact h.elim
    · exact h.elim
  · split at h
    · split at h
      · rename_i hk
        subst h; intro j ob hj; simp at hj; rw [hj.1, hk]; exact .inl (by simp)
      · exact h.elim
    · exact h.elim
  · split at h
    · split at h
      · rename_i hk
        split at h
        · split at h
          · obtain ⟨_, rfl⟩ := h; intro j ob hj; simp at hj; rw [hj.1, hk]; exact .inl (by simp)
          · exact h.elim
        · obtain ⟨_, rfl⟩ := h; intro j ob hj; simp at hj; rw [hj.1, hk]; exact .inl (by simp)
      · exact h.elim
    · exact h.elim
  · split at h
    · split at h
      · rename_i hk
        split at h
        · subst h; intro j ob hj; simp at hj; rw [hj.1, hk]; exact .inl (by simp)
        · exact h.elim
      · exact h.elim
    · exact h.elim
  · split at h
    · split at h
      · split at h
        · subst h; intro j ob hj; simp at hj
        · subst h; intro j ob hj; simp at hj
        · exact h.elim
      · exact h.elim
    · exact h.elim
  · split at h
    · split at h
      · rename_i hk
        split at h
        · subst h; intro j ob hj; simp at hj; rw [hj.1, hk]; exact .inl (by simp)
        · exact h.elim
      · exact h.elim
    · exact h.elim
  · exact h.elim

theorem evX_names {base : Nat} {st : St} {aop : AOp} {out : Out} (h : evX P base st (· = out) aop) : NmOk base st out := by
  unfold evX at h
  split at h
  · split at h
    · split at h
      · rename_i hk
        split at h
        · obtain ⟨_, rfl⟩ := h; intro j ob hj; simp at hj; rw [hj.1, hk]; exact .inl (by simp)
        · exact h.elim
      · exact h.elim
    · exact h.elim
  · split at h
    · obtain ⟨_, rfl⟩ := h; intro j ob hj; simp at hj; exact .inr (by simp; omega)
    · exact h.elim
  · subst h; intro j ob hj; simp at hj; exact .inr (by simp; omega)
  · split at h
    · obtain ⟨_, h⟩ := h
      split at h
      · rcases h with h | h
        · split at h
          · subst h; intro j ob hj; simp at hj
          · subst h; intro j ob hj; simp at hj; exact .inr (by simp; omega)
        · subst h; intro j ob hj; simp at hj
      · subst h; intro j ob hj; simp at hj
    · exact h.elim
  · split at h
    · split at h
      · obtain ⟨_, _, _, rfl⟩ := h; intro j ob hj; simp at hj; exact .inr (by simp; omega)
      · split at h
        · rename_i hk
          obtain ⟨_, _, _, _, _, rfl⟩ := h; intro j ob hj; simp at hj; rw [hj.1, hk]; exact .inl (by simp)
        · exact h.elim
      · exact h.elim
    · exact h.elim
  · split at h
    · obtain ⟨_, rfl⟩ := h; intro j ob hj; simp at hj; exact .inr (by simp; omega)
    · exact h.elim
  · exact (FnEv_eq h).2.1
  · split at h
    · exact (FnEvS_eq h).2.1
    · exact (FnEvS_eq h).2.1
    · exact h.elim
  · subst h; intro j ob hj; simp at hj; exact .inr (by simp; omega)
  · split at h
    · split at h
      · subst h; intro j ob hj; simp at hj; exact .inr (by simp; omega)
      · exact h.elim
    · exact h.elim
  · split at h
    · subst h; intro j ob hj; simp at hj
    · split at h
      · subst h; intro j ob hj; simp at hj
      · exact h.elim
    · exact h.elim
  · exact evXN_names h
  · exact h.elim

theorem evY_names {base : Nat} {st : St} {aop : AOp} {out : Out} (h : YOut st base aop out) : NmOk base st out := by
  cases h with
  | stG hx hk | stF hx hk | boxF hk | allocF hk | appG hx hk | clrG hx hk => intro j ob hj; simp at hj; rw [hj.1, hk]; exact .inl (by simp)
  | appF hx hy hk => intro j ob hj; simp at hj; rw [hj.1, hk]; exact .inl (by simp)
  | bslF hx hk => intro j ob hj; simp at hj; rw [hj.1, hk]; exact .inl (by simp)
  | appN | bslO => intro j ob hj; simp at hj; exact .inr (by simp; omega)
theorem evXY_names {base : Nat} {st : St} {aop : AOp} {out : Out} (h : evX P base st (· = out) aop ∨ evY base st (· = out) aop) : NmOk base st out := by
  rcases h with h | ⟨out', h, rfl⟩
  · exact evX_names h
  · exact evY_names h

theorem evO_names {base : Nat} {st : St} {ao : AO} {out : Out} (h : evO P base st ao (· = out)) : NmOk base st out := by
  unfold evO at h
  split at h
  · unfold evU at h
    split at h
    · obtain ⟨_, rfl⟩ := h; intro j ob hj; simp at hj
    · exact evXY_names h
  · split at h
    · exact h.elim
    · rename_i gc _
      split at h
      · obtain ⟨_, rfl⟩ := h; intro j ob hj; simp at hj
      · rcases h with h | h
        · unfold callG at h
          split at h
          · obtain ⟨out0, _, ⟨k2, _⟩, rfl⟩ := h; intro j ob hj; simp [k2] at hj
          · exact h.elim
        cases gc with
        | true => exact evXY_names (h.1 rfl)
        | false => have := h.2 rfl; subst this; intro j ob hj; simp at hj

theorem aget_asets_none : ∀ (ob : List (Nat × AObj)) (s : List (Nat × AObj)) (k : Nat), aget s k = none → (∀ o, (k, o) ∉ ob) → aget (asets s ob) k = none
  | [], s, k, h, _ => h
  | (j, o) :: r, s, k, h, hn => by
    refine aget_asets_none r (aset s j o) k ?_ (fun o' ho' => hn o' (List.mem_cons_of_mem _ ho'))
    rw [aget_aset]
    have : j ≠ k := by rintro rfl; exact hn o (by simp)
    simp [this, h]

/-- names that are free stay free -/
theorem free_after {base : Nat} {st : St} {out : Out} (hn : NmOk base st out) {k : Nat} (hk : aget st.s.sto k = none) (ho : k < base ∨ base + out.n ≤ k) (d : Option Nat) : aget (st.app d out).s.sto k = none := by
  refine aget_asets_none _ _ _ hk fun o h => ?_
  rcases hn k o h with h | h
  · exact h hk
  · omega

def DstOk (C : Ctx) (ops : Array Oper) : Prop := ∀ (j : Nat) (p : Oper) (d : Nat), ops[j]? = some p → p.dst = some d → d < C.n

theorem resOs_at : ∀ {l : List Oper} {aos : List AO}, resOs P ops l = some aos → l.length = aos.length ∧ ∀ (j : Nat) (o : Oper) (ao : AO), l[j]? = some o → aos[j]? = some ao → resO P ops o = some ao
  | [], aos, h => by simp [resOs] at h; subst h; simp
  | o :: r, aos, h => by
    simp only [resOs] at h
    split at h
    · rename_i a l h1 h2
      simp at h; subst h
      obtain ⟨i1, i2⟩ := resOs_at h2
      refine ⟨by simp [i1], fun j p ao hp ha => ?_⟩
      cases j with
      | zero => simp at hp ha; subst hp; subst ha; exact h1
      | succ j => exact i2 j p ao (by simpa using hp) (by simpa using ha)
    · simp at h

theorem seq_ops {C : Ctx} (hC : C.P = P) (hd : DstOk C ops) {aos : List AO} (hres : resOs P ops ops.toList = some aos) {Q : Exit → Act → World → Prop} {b' : Nat} {st' : St} (m : Nat) :
    ∀ (r : List AO) (i : Nat) (base : Nat) (st : St) (outs : List Out) (Λ : L) (a : Act), aos.drop i = r → Ch P base st r outs b' st' → Rel C Λ st a → Λ.nxt = m → b' ≤ m →
      (∀ k, base ≤ k → k < m → Free Λ k ∧ aget st.s.sto k = none) → (∀ (a' : Act) (Λ' : L), Rel C Λ' st' a' → Λ'.nxt = m → Q .normal a' Λ'.w) → wpOps P ops Q (List.range' i r.length) a Λ.w
  | [], i, base, st, outs, Λ, a, _, hch, hr, hm, _, _, hq => by
    cases outs with
    | nil => obtain ⟨rfl, rfl⟩ := hch; simp only [List.length_nil, List.range'_zero, wpOps]; exact hq a Λ hr hm
    | cons _ _ => exact hch.elim
  | ao :: r, i, base, st, outs, Λ, a, hdrop, hch, hr, hm, hb, hf, hq => by
    cases outs with
    | nil => exact hch.elim
    | cons out os =>
      obtain ⟨h1, h2⟩ := hch
      obtain ⟨hlen, hat⟩ := resOs_at hres
      have hi : i < aos.length := by
        rcases Nat.lt_or_ge i aos.length with h | h
        · exact h
        · rw [List.drop_eq_nil_of_le h] at hdrop; cases hdrop
      have hao : aos[i]? = some ao := by
        have := List.getElem?_drop (xs := aos) (i := i) (j := 0)
        rw [hdrop] at this; simpa using this.symm
      have hopi : i < ops.size := by rw [← Array.length_toList, hlen]; exact hi
      have ho : ops[i]? = some ops[i] := by simp [hopi]
      have hro := hat i ops[i] ao (by simp) hao
      have hle := Ch.le h2
      have hnm := evO_names h1
      simp only [List.length_cons, List.range'_succ]
      rw [wpOps_cons]
      refine (evO_sound ho hro h1 hC hr hd (by omega) (fun k k1 k2 => ?_) fun v Λ' k1 k2 k3 k4 k5 => ?_).2
      · obtain ⟨f1, f2⟩ := hf k k1 (by omega)
        exact ⟨by omega, f1, f2⟩
      · have hdst : ao.dst = ops[i].dst := (evO_sound (next := fun _ _ => True) (Q := Q) ho hro h1 hC hr hd (by omega) (fun k k1 k2 => by
          obtain ⟨f1, f2⟩ := hf k k1 (by omega); exact ⟨by omega, f1, f2⟩) (fun _ _ _ _ _ _ _ => trivial)).1
        have hr' : Rel C Λ' (st.app ao.dst out) (a.put ao.dst v) := hr.step k1 (fun x hx => hd i _ x ho (by rw [← hdst]; exact hx)) k4 k3
        rw [← hdst]
        refine seq_ops hC hd hres m r (i + 1) _ _ os Λ' _ (by rw [← List.drop_drop, hdrop]; rfl) h2 hr' (by omega) hb (fun k k6 k7 => ?_) hq
        obtain ⟨f1, f2⟩ := hf k (by omega) k7
        exact ⟨k5 k f1 f2 (.inl k6), free_after hnm f2 (.inr k6) _⟩

end
end Go.GB


/-
  GbR: regions whose order is drawn: what an operation does depends only on what it reads.
-/
namespace Go.GB

def Ar.slots : Ar → List Nat
  | .s t => [t]
  | .c _ => []
def Ar.slotso : Option Ar → List Nat
  | some x => x.slots
  | none => []
def arsSlots : List Ar → List Nat
  | [] => []
  | x :: r => x.slots ++ arsSlots r
def parts3Slots : List (Nat × Nat × Ar) → List Nat
  | [] => []
  | (_, _, x) :: r => x.slots ++ parts3Slots r
def parts2Slots : List (Nat × Ar) → List Nat
  | [] => []
  | (_, x) :: r => x.slots ++ parts2Slots r

def NOp.slots : NOp → List Nat
  | .lookup _ _ _ _ x k => x.slots ++ k.slots
  | .mupd _ _ x k v => x.slots ++ (k.slots ++ v.slots)
  | .mdel _ _ x k => x.slots ++ k.slots
  | .ment _ _ _ x k => x.slots ++ k.slots
  | .ests x s v => x.slots ++ (s.slots ++ v.slots)
  | .mclr x => x.slots
  | .nxt x => x.slots
  | .ient x => x.slots
  | .xtr _ x y => x.slots ++ y.slots
  | .xcm x y => x.slots ++ y.slots
  | .bad => []
  | .sclr _ _ x => x.slots
  | .eqn _ x => x.slots
  | .eqst _ _ x y => x.slots ++ y.slots
  | .bstr x => x.slots
  | .plook _ _ x k => x.slots ++ k.slots
  | .pupd _ x k v => x.slots ++ (k.slots ++ v.slots)
def AOp.slots : AOp → List Nat
  | .nw op => op.slots
  | .cst _ => []
  | .mv x => x.slots
  | .pick c a b => c.slots ++ (a.slots ++ b.slots)
  | .un _ x => x.slots
  | .bin _ x y => x.slots ++ y.slots
  | .eqb _ x y => x.slots ++ y.slots
  | .eqp _ x => x.slots
  | .eqm _ x => x.slots
  | .conv _ x => x.slots
  | .convs x => x.slots
  | .nilck x => x.slots
  | .fa _ x => x.slots
  | .ld _ _ x => x.slots
  | .ia _ x i => x.slots ++ i.slots
  | .iarr _ _ x i => x.slots ++ i.slots
  | .ixs x i => x.slots ++ i.slots
  | .ixa _ _ _ x i => x.slots ++ i.slots
  | .len x => x.slots
  | .lens x => x.slots
  | .sls x lo hi => x.slots ++ (Ar.slotso lo ++ Ar.slotso hi)
  | .sll _ x lo hi => x.slots ++ (Ar.slotso lo ++ Ar.slotso hi)
  | .fld _ _ _ x => x.slots
  | .maxi x y => x.slots ++ y.slots
  | .mini x y => x.slots ++ y.slots
  | .build _ ps => parts3Slots ps
  | .mkfn _ caps => arsSlots caps
  | .lenm x => x.slots
  | .st _ x v => x.slots ++ v.slots
  | .box _ x => x.slots
  | .alloc _ => []
  | .bsl _ _ _ ps => parts2Slots ps
  | .app _ _ x y => x.slots ++ y.slots
  | .ext x _ => x.slots
  | .mkmap _ _ => []
  | .mrange x => x.slots
  | .mksl _ _ _ n => n.slots
  | .call _ args => arsSlots args
  | .callv x args => x.slots ++ arsSlots args

def AO.reads (ao : AO) : List Nat := (match ao.g with | some (s, _) => [s] | none => []) ++ ao.op.slots

section
variable {P : Program} {st st' : St}

theorem v_congr {x : Ar} (h : ∀ t ∈ x.slots, look st.env t = look st'.env t) : x.v st = x.v st' := by
  cases x with
  | s t => exact h t (by simp [Ar.slots])
  | c v => rfl

theorem u_congr {x : Ar} (h : ∀ t ∈ x.slots, look st.env t = look st'.env t) : x.u st = x.u st' := by unfold Ar.u; rw [v_congr h]

theorem rd_congr {gc : Bool} {x : Ar} (h : ∀ t ∈ x.slots, look st.env t = look st'.env t) : rd gc st x = rd gc st' x := by
  unfold rd; rw [v_congr h]

theorem bnd_congr {gc : Bool} {x : Option Ar} {d : Int} (h : ∀ t ∈ Ar.slotso x, look st.env t = look st'.env t) : bnd x gc st d = bnd x gc st' d := by
  cases x with
  | none => rfl
  | some x => simp only [bnd]; rw [rd_congr (st := st) (st' := st') h]

theorem fillV_congr {gc : Bool} : ∀ {ps : List (Nat × Nat × Ar)} {cs : List V}, (∀ t ∈ parts3Slots ps, look st.env t = look st'.env t) → fillV st gc cs ps = fillV st' gc cs ps
  | [], _, _ => rfl
  | (off, n, x) :: r, cs, h => by
    simp only [fillV]
    rw [rd_congr (st := st) (st' := st') (fun t ht => h t (by simp [parts3Slots, ht]))]
    have ih := fun cs => fillV_congr (gc := gc) (ps := r) (cs := cs) (fun t ht => h t (by simp [parts3Slots, ht]))
    simp only [ih]

theorem capsOf_congr : ∀ {xs : List Ar}, (∀ t ∈ arsSlots xs, look st.env t = look st'.env t) → capsOf st xs = capsOf st' xs
  | [], _ => rfl
  | x :: r, h => by
    simp only [capsOf]
    rw [v_congr (st := st) (st' := st') (fun t ht => h t (by simp [arsSlots, ht])), capsOf_congr (xs := r) (fun t ht => h t (by simp [arsSlots, ht]))]

theorem argsV_congr : ∀ {xs : List Ar}, (∀ t ∈ arsSlots xs, look st.env t = look st'.env t) → argsV st xs = argsV st' xs
  | [], _ => rfl
  | x :: r, h => by
    simp only [argsV]
    rw [u_congr (st := st) (st' := st') (fun t ht => h t (by simp [arsSlots, ht])), argsV_congr (xs := r) (fun t ht => h t (by simp [arsSlots, ht]))]

theorem pureParts_congr {sz : Nat} : ∀ {ps : List (Nat × Ar)} {xs : List (List T)}, (∀ t ∈ parts2Slots ps, look st.env t = look st'.env t) → pureParts st sz xs ps = pureParts st' sz xs ps
  | [], _, _ => rfl
  | (i, x) :: r, xs, h => by
    simp only [pureParts]
    rw [u_congr (st := st) (st' := st') (fun t ht => h t (by simp [parts2Slots, ht]))]
    have ih := fun xs => pureParts_congr (sz := sz) (ps := r) (xs := xs) (fun t ht => h t (by simp [parts2Slots, ht]))
    simp only [ih]

theorem looksE_congr {op : AOp} (h : ∀ t ∈ op.slots, look st.env t = look st'.env t) : looksE st op = looksE st' op := by
  cases op <;> simp only [looksE]
  case ld ag n x => rw [v_congr (st := st) (st' := st') (fun t ht => h t (by simp [AOp.slots, ht]))]
  case eqp a x => rw [v_congr (st := st) (st' := st') (fun t ht => h t (by simp [AOp.slots, ht]))]
  case nilck x => rw [v_congr (st := st) (st' := st') (fun t ht => h t (by simp [AOp.slots, ht]))]
  case fa a x => rw [v_congr (st := st) (st' := st') (fun t ht => h t (by simp [AOp.slots, ht]))]
  case ia a x i => rw [v_congr (st := st) (st' := st') (fun t ht => h t (by simp [AOp.slots, ht]))]
  case len x => rw [v_congr (st := st) (st' := st') (fun t ht => h t (by simp [AOp.slots, ht]))]
  case sll a x lo hi => rw [v_congr (st := st) (st' := st') (fun t ht => h t (by simp [AOp.slots, ht]))]
  case nw op =>
    cases op <;> simp only
    case lookup a b c d x k => rw [v_congr (st := st) (st' := st') (fun t ht => h t (by simp [AOp.slots, NOp.slots, ht]))]
    case ient x => rw [v_congr (st := st) (st' := st') (fun t ht => h t (by simp [AOp.slots, NOp.slots, ht]))]

def V.ng : V → Bool
  | .gpt _ _ _ => false
  | .gsl _ _ _ _ _ => false
  | _ => true
theorem rd_ng {gc : Bool} {x : Ar} (h : looksG (x.v st) = false) : (rd gc st x).1.ng = true := by
  unfold rd
  generalize x.v st = y at h ⊢
  cases y with
  | gpt _ _ _ => simp [looksG] at h
  | gsl _ _ _ _ _ => simp [looksG] at h
  | gd c y =>
    cases y with
    | gpt _ _ _ => simp [looksG] at h
    | gsl _ _ _ _ _ => simp [looksG] at h
    | _ => rfl
  | _ => rfl

theorem evalE_congr {gc : Bool} {op : AOp} (h : ∀ t ∈ op.slots, look st.env t = look st'.env t) (hs : looksE st op = false ∨ st.s.sto = st'.s.sto) : evalE gc st op = evalE gc st' op := by
  have r1 : ∀ (g : Bool) (x : Ar), (∀ t ∈ x.slots, t ∈ op.slots) → rd g st x = rd g st' x := fun g x hx => rd_congr fun t ht => h t (hx t ht)
  cases op with
  | cst v => rfl
  | mv x => simp only [evalE]; rw [r1 gc x (fun t ht => ht)]
  | pick c a b => simp only [evalE]; rw [r1 gc c (fun t ht => by simp [AOp.slots, ht])]; simp only [r1 _ a (fun t ht => by simp [AOp.slots, ht]), r1 _ b (fun t ht => by simp [AOp.slots, ht])]
  | un op x => cases op <;> simp only [evalE] <;> rw [r1 gc x (fun t ht => ht)]
  | bin op x y => simp only [evalE]; rw [r1 gc x (fun t ht => by simp [AOp.slots, ht]), r1 gc y (fun t ht => by simp [AOp.slots, ht])]
  | eqb op x y => simp only [evalE]; rw [r1 gc x (fun t ht => by simp [AOp.slots, ht]), r1 gc y (fun t ht => by simp [AOp.slots, ht])]
  | eqp op x => 
    have hx := r1 gc x (fun t ht => by simp [AOp.slots, ht])
    rcases hs with hs | hs
    · have h0 := rd_ng (gc := gc) (by simpa [looksE] using hs)
      simp only [evalE, ← hx]
      generalize rd gc st x = z at h0 ⊢
      obtain ⟨v, p⟩ := z
      cases v <;> first | rfl | (simp [V.ng] at h0; done) | (rename_i y; cases y <;> rfl)
    · simp only [evalE, ← hx, hs]
  | eqm op x => simp only [evalE]; rw [r1 gc x (fun t ht => ht)]
  | conv k x => simp only [evalE]; rw [r1 gc x (fun t ht => ht)]
  | convs x => simp only [evalE]; rw [r1 gc x (fun t ht => ht)]
  | nilck x => 
    have hx := r1 gc x (fun t ht => by simp [AOp.slots, ht])
    rcases hs with hs | hs
    · have h0 := rd_ng (gc := gc) (by simpa [looksE] using hs)
      simp only [evalE, ← hx]
      generalize rd gc st x = z at h0 ⊢
      obtain ⟨v, p⟩ := z
      cases v <;> first | rfl | (simp [V.ng] at h0; done) | (rename_i y; cases y <;> rfl)
    · simp only [evalE, ← hx, hs]
  | fa n x => 
    have hx := r1 gc x (fun t ht => by simp [AOp.slots, ht])
    rcases hs with hs | hs
    · have h0 := rd_ng (gc := gc) (by simpa [looksE] using hs)
      simp only [evalE, ← hx]
      generalize rd gc st x = z at h0 ⊢
      obtain ⟨v, p⟩ := z
      cases v <;> first | rfl | (simp [V.ng] at h0; done) | (rename_i y; cases y <;> rfl)
    · simp only [evalE, ← hx, hs]
  | ld ag n x =>
    have hv := v_congr (st := st) (st' := st') (x := x) (fun t ht => h t ht)
    rcases hs with hs | hs
    · simp only [evalE, rd, ← hv]
      simp only [looksE] at hs
      generalize x.v st = y at hs ⊢
      cases y with
      | t z => cases z <;> rfl
      | ptr _ _ => simp [looksV] at hs
      | fpt _ _ _ => simp [looksV] at hs
      | gpt _ _ _ => simp [looksV] at hs
      | mp _ => rfl
      | gd c y =>
        cases y with
        | t z => cases z <;> rfl
        | ptr _ _ => simp [looksV] at hs
        | fpt _ _ _ => simp [looksV] at hs
        | gpt _ _ _ => simp [looksV] at hs
        | _ => rfl
      | _ => rfl
    · simp only [evalE]; rw [r1 gc x (fun t ht => ht), hs]
  | ia sz x i =>
    have hx := r1 gc x (fun t ht => by simp [AOp.slots, ht])
    have hi := r1 gc i (fun t ht => by simp [AOp.slots, ht])
    rcases hs with hs | hs
    · have h0 := rd_ng (gc := gc) (by simpa [looksE] using hs)
      simp only [evalE, ← hx, ← hi]
      generalize rd gc st x = z at h0 ⊢
      generalize rd gc st i = z2
      obtain ⟨v, p⟩ := z
      obtain ⟨v2, p2⟩ := z2
      have e2 : (∃ k n, v2 = .t (.int k n)) ∨ ∀ k n, v2 ≠ .t (.int k n) := by
        cases v2 with
        | t y => cases y <;> first | exact .inl ⟨_, _, rfl⟩ | exact .inr (by simp)
        | _ => exact .inr (by simp)
      rcases e2 with ⟨k, n, rfl⟩ | e2
      · cases v <;> first | rfl | (exfalso; cases h0; done)
      · cases v2 with
        | t y => cases y <;> first | rfl | exact absurd rfl (e2 _ _)
        | _ => rfl
    · simp only [evalE, ← hx, ← hi, hs]
  | iarr a b x i => simp only [evalE]; rw [r1 gc x (fun t ht => by simp [AOp.slots, ht]), r1 gc i (fun t ht => by simp [AOp.slots, ht])]
  | ixs x i => simp only [evalE]; rw [r1 gc x (fun t ht => by simp [AOp.slots, ht]), r1 gc i (fun t ht => by simp [AOp.slots, ht])]
  | ixa a b c x i => simp only [evalE]; rw [r1 gc x (fun t ht => by simp [AOp.slots, ht]), r1 gc i (fun t ht => by simp [AOp.slots, ht])]
  | len x => 
    have hx := r1 gc x (fun t ht => by simp [AOp.slots, ht])
    rcases hs with hs | hs
    · have h0 := rd_ng (gc := gc) (by simpa [looksE] using hs)
      simp only [evalE, ← hx]
      generalize rd gc st x = z at h0 ⊢
      obtain ⟨v, p⟩ := z
      cases v <;> first | rfl | (simp [V.ng] at h0; done) | (rename_i y; cases y <;> rfl)
    · simp only [evalE, ← hx, hs]
  | lens x => simp only [evalE]; rw [r1 gc x (fun t ht => ht)]
  | sls x lo hi =>
    have b1 := fun d => bnd_congr (st := st) (st' := st') (gc := gc) (x := lo) (d := d) (fun t ht => h t (by simp [AOp.slots, ht]))
    have b2 := fun d => bnd_congr (st := st) (st' := st') (gc := gc) (x := hi) (d := d) (fun t ht => h t (by simp [AOp.slots, ht]))
    simp only [evalE, b1, b2]; rw [r1 gc x (fun t ht => by simp [AOp.slots, ht])]
  | sll a x lo hi =>
    have b1 := fun d => bnd_congr (st := st) (st' := st') (gc := gc) (x := lo) (d := d) (fun t ht => h t (by simp [AOp.slots, ht]))
    have b2 := fun d => bnd_congr (st := st) (st' := st') (gc := gc) (x := hi) (d := d) (fun t ht => h t (by simp [AOp.slots, ht]))
    have hx := r1 gc x (fun t ht => by simp [AOp.slots, ht])
    rcases hs with hs | hs
    · have h0 := rd_ng (gc := gc) (by simpa [looksE] using hs)
      simp only [evalE, b1, b2, ← hx]
      generalize rd gc st x = z at h0 ⊢
      obtain ⟨v, p⟩ := z
      cases v <;> first | rfl | (simp [V.ng] at h0; done)
    · simp only [evalE, b1, b2, ← hx, hs]
  | fld a b c x => simp only [evalE]; rw [r1 gc x (fun t ht => ht)]
  | maxi x y => simp only [evalE]; rw [r1 gc x (fun t ht => by simp [AOp.slots, ht]), r1 gc y (fun t ht => by simp [AOp.slots, ht])]
  | mini x y => simp only [evalE]; rw [r1 gc x (fun t ht => by simp [AOp.slots, ht]), r1 gc y (fun t ht => by simp [AOp.slots, ht])]
  | build zs ps => simp only [evalE]; rw [fillV_congr (st := st) (st' := st') h]
  | mkfn f caps => simp only [evalE]; rw [capsOf_congr (st := st) (st' := st') h]
  | ext x i => simp only [evalE]; rw [r1 gc x (fun t ht => ht)]
  | nw op =>
    cases op with
    | lookup ks kag zv ok x k =>
      have hk := rd_congr (st := st) (st' := st') (gc := gc) (x := k) (fun t ht => h t (by simp [AOp.slots, NOp.slots, ht]))
      rcases hs with hs | hs
      · have hv := v_congr (st := st) (st' := st') (x := x) (fun t ht => h t (by simp [AOp.slots, NOp.slots, ht]))
        simp only [evalE, evalN, hk]
        simp only [rd, ← hv]
        simp only [looksE] at hs
        generalize x.v st = y at hs ⊢
        cases y with
        | t z => cases z <;> rfl
        | mp _ => simp [looksV] at hs
        | gd c y =>
          cases y with
          | t z => cases z <;> rfl
          | mp _ => simp [looksV] at hs
          | _ => rfl
        | _ => rfl
      · have hx := rd_congr (st := st) (st' := st') (gc := gc) (x := x) (fun t ht => h t (by simp [AOp.slots, NOp.slots, ht]))
        simp only [evalE, evalN]; rw [hx, hk, hs]
    | ient x =>
      rcases hs with hs | hs
      · have hv := v_congr (st := st) (st' := st') (x := x) (fun t ht => h t (by simp [AOp.slots, NOp.slots, ht]))
        simp only [evalE, evalN]
        simp only [rd, ← hv]
        simp only [looksE] at hs
        generalize x.v st = y at hs ⊢
        cases y with
        | ptr _ _ => simp [looksV] at hs
        | gd c y =>
          cases y with
          | ptr _ _ => simp [looksV] at hs
          | _ => rfl
        | _ => rfl
      · have hx := rd_congr (st := st) (st' := st') (gc := gc) (x := x) (fun t ht => h t (by simp [AOp.slots, NOp.slots, ht]))
        simp only [evalE, evalN]; rw [hx, hs]
    | bstr x =>
      simp only [evalE, evalN]
      rw [rd_congr (st := st) (st' := st') (gc := gc) (x := x) (fun t ht => h t (by simp [AOp.slots, NOp.slots, ht]))]
    | eqn neg x =>
      simp only [evalE, evalN]
      rw [rd_congr (st := st) (st' := st') (gc := gc) (x := x) (fun t ht => h t (by simp [AOp.slots, NOp.slots, ht]))]
    | eqst neg ks x y =>
      simp only [evalE, evalN]
      rw [rd_congr (st := st) (st' := st') (gc := gc) (x := x) (fun t ht => h t (by simp [AOp.slots, NOp.slots, ht])), rd_congr (st := st) (st' := st') (gc := gc) (x := y) (fun t ht => h t (by simp [AOp.slots, NOp.slots, ht]))]
    | xcm x y =>
      simp only [evalE, evalN]
      rw [rd_congr (st := st) (st' := st') (gc := gc) (x := x) (fun t ht => h t (by simp [AOp.slots, NOp.slots, ht])), rd_congr (st := st) (st' := st') (gc := gc) (x := y) (fun t ht => h t (by simp [AOp.slots, NOp.slots, ht]))]
    | xtr cnt x y =>
      simp only [evalE, evalN]
      rw [rd_congr (st := st) (st' := st') (gc := gc) (x := x) (fun t ht => h t (by simp [AOp.slots, NOp.slots, ht])), rd_congr (st := st) (st' := st') (gc := gc) (x := y) (fun t ht => h t (by simp [AOp.slots, NOp.slots, ht]))]
    | _ => rfl
  | lenm x => rfl
  | st n x v => rfl
  | box n x => rfl
  | alloc zs => rfl
  | bsl a b c d => rfl
  | app a b c d => rfl
  | mkmap a b => rfl
  | mrange x => rfl
  | mksl a b c d => rfl
  | call f a => rfl
  | callv x a => rfl

theorem FnEv_congr {f : FuncId} {vs : List V} {base : Nat} {sto sto' : List (Nat × AObj)} {out : Out} (hs : out.rd = false ∨ sto = sto') (h : FnEv P f vs base sto (· = out)) : FnEv P f vs base sto' (· = out) := by
  obtain ⟨o, h1, rfl⟩ := h
  refine ⟨o, ?_, rfl⟩
  rcases hs with hs | hs
  · simp only [hs, Bool.false_eq_true, if_false] at h1 ⊢; exact h1
  · rw [← hs]; exact h1

theorem FnEvS_congr {f : FuncId} {vs : List V} {base : Nat} {sto sto' : List (Nat × AObj)} {out : Out} (hs : out.rd = false ∨ sto = sto') (h : FnEvS P f vs base sto (· = out)) : FnEvS P f vs base sto' (· = out) := by
  obtain ⟨o, h1, rfl⟩ := h
  refine ⟨o, ?_, rfl⟩
  rcases hs with hs | hs
  · simp only [hs, Bool.false_eq_true, if_false] at h1 ⊢; exact h1
  · rw [← hs]; exact h1

theorem FnEv_ext {f : FuncId} {vs : List V} {base : Nat} {sto sto' : List (Nat × AObj)} {out : Out} (hs : ∀ k, k < base → aget sto' k = aget sto k) (h : FnEv P f vs base sto (· = out)) : FnEv P f vs base sto' (· = out) := by
  obtain ⟨o, h1, rfl⟩ := h
  refine ⟨o, ?_, rfl⟩
  cases hr : o.rd with
  | false => rw [hr] at h1; simpa using h1
  | true =>
    rw [hr] at h1
    simp only [if_true] at h1 ⊢
    exact fun s hk => h1 s fun k hb => (hk k hb).trans (hs k hb)

theorem evX_congr {base : Nat} {op : AOp} {out : Out} (h : ∀ t ∈ op.slots, look st.env t = look st'.env t) (hs : out.rd = false ∨ st.s.sto = st'.s.sto) (he : evX P base st (· = out) op) : evX P base st' (· = out) op := by
  have v1 : ∀ (x : Ar), (∀ t ∈ x.slots, t ∈ op.slots) → x.u st = x.u st' := fun x hx => u_congr fun t ht => h t (hx t ht)
  cases op with
  | st n x v =>
    simp only [evX] at he ⊢
    rw [← v1 x (fun t ht => by simp [AOp.slots, ht]), ← v1 v (fun t ht => by simp [AOp.slots, ht])]
    rcases hs with hs | hs
    · exfalso
      split at he
      · split at he
        · split at he
          · obtain ⟨_, rfl⟩ := he; simp at hs
          · exact he
        · exact he
      · exact he
    · rw [← hs]; exact he
  | box n x => simp only [evX] at he ⊢; rw [← v1 x (fun t ht => ht)]; exact he
  | alloc zs => exact he
  | bsl a b c d => simp only [evX] at he ⊢; rw [← pureParts_congr (st := st) (st' := st') h]; exact he
  | app a b x y =>
    simp only [evX] at he ⊢
    rw [← v1 x (fun t ht => by simp [AOp.slots, ht]), ← v1 y (fun t ht => by simp [AOp.slots, ht])]
    rcases hs with hs | hs
    · generalize (Ar.u st y).cell1 = cy at he ⊢
      generalize Ar.u st x = vx at he ⊢
      cases cy with
      | none => exact he
      | some z =>
        cases z with
        | lst ys =>
          cases vx with
          | nils => exact he
          | own k s xs =>
            exfalso
            simp only at he
            split at he
            · obtain ⟨_, _, _, _, _, rfl⟩ := he; simp at hs
            · exact he
          | _ => exact he
        | _ => exact he
    · rw [← hs]; exact he
  | mksl a b c n => simp only [evX] at he ⊢; rw [← v1 n (fun t ht => ht)]; exact he
  | call f args => simp only [evX] at he ⊢; rw [← argsV_congr (st := st) (st' := st') h]; exact FnEv_congr hs he
  | callv x args =>
    simp only [evX] at he ⊢
    rw [← v1 x (fun t ht => by simp [AOp.slots, ht]), ← argsV_congr (st := st) (st' := st') (fun t ht => h t (by simp [AOp.slots, ht]))]
    generalize Ar.u st x = vx at he ⊢
    cases vx with
    | t z =>
      cases z with
      | fn f => exact FnEvS_congr hs he
      | _ => exact he
    | fn f caps => exact FnEvS_congr hs he
    | _ => exact he
  | mkmap a b => exact he
  | mrange x =>
    simp only [evX] at he ⊢
    rw [← v1 x (fun t ht => ht)]
    rcases hs with hs | hs
    · exfalso
      split at he
      · split at he
        · subst he; simp at hs
        · exact he
      · exact he
    · rw [← hs]; exact he
  | lenm x =>
    simp only [evX] at he ⊢
    rw [← v1 x (fun t ht => ht)]
    rcases hs with hs | hs
    · exfalso
      split at he
      · subst he; simp at hs
      · split at he
        · subst he; simp at hs
        · exact he
      · exact he
    · rw [← hs]; exact he
  | nw op =>
    have u1 : ∀ (x : Ar), (∀ t ∈ x.slots, t ∈ op.slots) → x.u st = x.u st' := fun x hx => u_congr fun t ht => h t (by simp only [AOp.slots]; exact hx t ht)
    have hrd : out.rd = true := by
      simp only [evX] at he
      unfold evXN at he
      (repeat' split at he) <;> first | exact he.elim | (obtain ⟨_, rfl⟩ := he; rfl) | (subst he; rfl)
    have hs' : st.s.sto = st'.s.sto := by
      rcases hs with hs | hs
      · rw [hrd] at hs; cases hs
      · exact hs
    simp only [evX] at he ⊢
    cases op with
    | mupd ks kag x k v => simp only [evXN] at he ⊢; rw [← u1 x (fun t ht => by simp [NOp.slots, ht]), ← u1 k (fun t ht => by simp [NOp.slots, ht]), ← u1 v (fun t ht => by simp [NOp.slots, ht]), ← hs']; exact he
    | mdel ks kag x k => simp only [evXN] at he ⊢; rw [← u1 x (fun t ht => by simp [NOp.slots, ht]), ← u1 k (fun t ht => by simp [NOp.slots, ht]), ← hs']; exact he
    | mclr x => simp only [evXN] at he ⊢; rw [← u1 x (fun t ht => ht), ← hs']; exact he
    | ment ks kag zv x k => simp only [evXN] at he ⊢; rw [← u1 x (fun t ht => by simp [NOp.slots, ht]), ← u1 k (fun t ht => by simp [NOp.slots, ht]), ← hs']; exact he
    | plook ks zv x k => simp only [evXN] at he ⊢; rw [← u1 x (fun t ht => by simp [NOp.slots, ht]), ← u1 k (fun t ht => by simp [NOp.slots, ht]), ← hs']; exact he
    | pupd ks x k v => simp only [evXN] at he ⊢; rw [← u1 x (fun t ht => by simp [NOp.slots, ht]), ← u1 k (fun t ht => by simp [NOp.slots, ht]), ← u1 v (fun t ht => by simp [NOp.slots, ht]), ← hs']; exact he
    | ests x s v => simp only [evXN] at he ⊢; rw [← u1 x (fun t ht => by simp [NOp.slots, ht]), ← u1 s (fun t ht => by simp [NOp.slots, ht]), ← u1 v (fun t ht => by simp [NOp.slots, ht]), ← hs']; exact he
    | _ => exact he.elim
  | _ => exact he.elim

theorem objParts_congr {sz : Nat} : ∀ {ps : List (Nat × Ar)} {cs : List V}, (∀ t ∈ parts2Slots ps, look st.env t = look st'.env t) → objParts st sz cs ps = objParts st' sz cs ps
  | [], _, _ => rfl
  | (i, x) :: r, cs, h => by
    simp only [objParts]
    rw [u_congr (st := st) (st' := st') (fun t ht => h t (by simp [parts2Slots, ht]))]
    have ih := fun cs => objParts_congr (sz := sz) (ps := r) (cs := cs) (fun t ht => h t (by simp [parts2Slots, ht]))
    simp only [ih]

theorem addV_congr {sz : Nat} {y : V} (hs : st.s.sto = st'.s.sto) : addV st sz y = addV st' sz y := by unfold addV; rw [hs]

theorem YOut_congr {base : Nat} {op : AOp} {out : Out} (h : ∀ t ∈ op.slots, look st.env t = look st'.env t) (hs : out.rd = false ∨ st.s.sto = st'.s.sto) (he : YOut st base op out) : YOut st' base op out := by
  have v1 : ∀ (x : Ar), (∀ t ∈ x.slots, t ∈ op.slots) → x.u st = x.u st' := fun x hx => u_congr fun t ht => h t (hx t ht)
  cases he with
  | @stG n x v _ _ _ _ _ _ hx hk hw hv hn ho hc =>
    have e := hs.resolve_left (by simp)
    exact .stG (v1 x (fun t ht => by simp [AOp.slots, ht]) ▸ hx) (e ▸ hk) hw (v1 v (fun t ht => by simp [AOp.slots, ht]) ▸ hv) hn ho hc
  | @stF n x v _ _ _ _ _ _ hx hk hi hv hn ho hc =>
    have e := hs.resolve_left (by simp)
    exact .stF (v1 x (fun t ht => by simp [AOp.slots, ht]) ▸ hx) (e ▸ hk) hi (v1 v (fun t ht => by simp [AOp.slots, ht]) ▸ hv) hn ho hc
  | @boxF n x _ _ _ hk hv hn hc =>
    have e := hs.resolve_left (by simp)
    exact .boxF (e ▸ hk) (v1 x (fun t ht => by simp [AOp.slots, ht]) ▸ hv) hn hc
  | allocF hk =>
    have e := hs.resolve_left (by simp)
    exact .allocF (e ▸ hk)
  | @appF _ _ x y _ _ _ _ _ hx hy hk hi hl h1 h2 =>
    have e := hs.resolve_left (by simp)
    exact .appF (v1 x (fun t ht => by simp [AOp.slots, ht]) ▸ hx) (v1 y (fun t ht => by simp [AOp.slots, ht]) ▸ hy) (e ▸ hk) hi hl h1 h2
  | @appN _ _ x y _ _ hx hy hc h1 h2 =>
    have e := hs.resolve_left (by simp)
    exact .appN (v1 x (fun t ht => by simp [AOp.slots, ht]) ▸ hx) (by rw [← addV_congr e, ← v1 y (fun t ht => by simp [AOp.slots, ht])]; exact hy) hc h1 h2
  | @appG _ _ x y _ _ _ _ _ _ _ hx hk hw hl hy hc h1 h2 =>
    have e := hs.resolve_left (by simp)
    exact .appG (v1 x (fun t ht => by simp [AOp.slots, ht]) ▸ hx) (e ▸ hk) hw hl (by rw [← addV_congr e, ← v1 y (fun t ht => by simp [AOp.slots, ht])]; exact hy) hc h1 h2
  | bslO hp =>
    exact .bslO (by rw [← objParts_congr (st := st) (st' := st') (fun t ht => h t (by simpa [AOp.slots] using ht))]; exact hp)
  | bslF hp hk h0 =>
    have e := hs.resolve_left (by simp)
    exact .bslF (by rw [← pureParts_congr (st := st) (st' := st') (fun t ht => h t (by simpa [AOp.slots] using ht))]; exact hp) (e ▸ hk) h0
  | @clrG _ _ x _ _ _ _ _ _ hx hk hw ho =>
    have e := hs.resolve_left (by simp)
    exact .clrG (v1 x (fun t ht => by simp [AOp.slots, NOp.slots, ht]) ▸ hx) (e ▸ hk) hw ho

theorem evXY_congr {base : Nat} {op : AOp} {out : Out} (h : ∀ t ∈ op.slots, look st.env t = look st'.env t) (hs : out.rd = false ∨ st.s.sto = st'.s.sto) (he : evX P base st (· = out) op ∨ evY base st (· = out) op) : evX P base st' (· = out) op ∨ evY base st' (· = out) op := by
  rcases he with he | ⟨o', he, rfl⟩
  · exact .inl (evX_congr h hs he)
  · exact .inr ⟨_, YOut_congr h hs he, rfl⟩
theorem evXY_looks {base : Nat} {op : AOp} {out : Out} (he : evX P base st (· = out) op ∨ evY base st (· = out) op) : looksE st op = false := by
  rcases he with he | ⟨o', he, rfl⟩
  · cases op with
    | nw op => cases op <;> simp_all [looksE, evX, evXN]
    | _ => simp_all [looksE, evX]
  · cases he <;> rfl

theorem evO_congr {base : Nat} {ao : AO} {out : Out} (h : ∀ t ∈ ao.reads, look st.env t = look st'.env t) (hs : out.rd = false ∨ st.s.sto = st'.s.sto) (he : evO P base st ao (· = out)) : evO P base st' ao (· = out) := by
  have hop : ∀ t ∈ ao.op.slots, look st.env t = look st'.env t := fun t ht => h t (by simp [AO.reads, ht])
  unfold evO at he ⊢
  cases hg : ao.g with
  | none =>
    simp only [hg] at he ⊢
    unfold evU at he ⊢
    cases hev : evalE true st ao.op with
    | some r =>
      obtain ⟨v, ps⟩ := r
      simp only [hev] at he
      obtain ⟨h1, rfl⟩ := he
      rw [← evalE_congr hop (by simpa using hs), hev]
      simp only
      exact ⟨h1, by rw [looksE_congr (st := st) (st' := st') hop]⟩
    | none =>
      simp only [hev] at he
      have : evalE true st' ao.op = none := by
        rw [← evalE_congr hop (.inl (evXY_looks he))]; exact hev
      rw [this]
      exact evXY_congr hop hs he
  | some g =>
    obtain ⟨s, want⟩ := g
    simp only [hg] at he ⊢
    rw [← h s (by simp [AO.reads, hg])]
    cases hc : gcond want (look st.env s) with
    | none => simp only [hc] at he
    | some gc =>
      simp only [hc] at he ⊢
      cases hev : evalE gc st ao.op with
      | some r =>
        obtain ⟨v, ps⟩ := r
        simp only [hev] at he
        obtain ⟨h1, rfl⟩ := he
        rw [← evalE_congr hop (by simpa using hs), hev]
        simp only
        exact ⟨h1, by rw [looksE_congr (st := st) (st' := st') hop]⟩
      | none =>
        simp only [hev] at he
        rcases he with he | he
        · have hcg : callG P gc base st' (· = out) ao.op := by
            cases hao : ao.op <;> rw [hao] at he <;> try (exact he.elim)
            rename_i f args
            simp only [callG] at he ⊢
            rw [hao] at hop
            rw [← argsV_congr (st := st) (st' := st') hop]
            obtain ⟨o, h1, h2, rfl⟩ := he
            refine ⟨o, fun hg => ?_, h2, rfl⟩
            have := h1 hg
            rcases hs with hs | hs
            · simp only at hs; simp only [hs, Bool.false_eq_true, if_false] at this ⊢; exact this
            · rw [← hs]; exact this
          have hnone : evalE gc st' ao.op = none := by
            cases hao : ao.op <;> rw [hao] at hcg <;> first | exact hcg.elim | rfl
          rw [hnone]
          exact Or.inl hcg
        cases gc with
        | false =>
          have hout := he.2 rfl
          subst hout
          rw [← evalE_congr hop (by simpa using hs), hev]
          exact Or.inr ⟨by simp, fun _ => by rw [looksE_congr (st := st) (st' := st') hop]⟩
        | true =>
          have hx := he.1 rfl
          have : evalE true st' ao.op = none := by
            rw [← evalE_congr hop (.inl (evXY_looks hx))]; exact hev
          simp only [this]
          exact Or.inr ⟨fun _ => evXY_congr hop hs hx, by simp⟩

end
end Go.GB


/-
  GbS: regions whose order is drawn: independent operations may go in any order.
-/
namespace Go.GB
set_option linter.unusedSimpArgs false

/-- the state behind the operations of a set -/
def stD (D : Nat → Bool) : Nat → St → List AO → List Out → St
  | i, st, ao :: r, out :: os => stD D (i + 1) (if D i then st.app ao.dst out else st) r os
  | _, st, _, _ => st

def sumN : List Out → Nat
  | [] => 0
  | o :: r => o.n + sumN r

/-- masks of what must go before -/
def befores : List (List Nat) → List Nat → List Nat
  | [], acc => acc
  | l :: r, acc => befores r (acc ++ [l.foldl (fun s j => s ||| (2 ^ j ||| acc.getD j 0)) 0])

def AO.hits (a b : AO) : Bool :=
  match a.dst with
  | some d => b.reads.contains d
  | none => false
def AO.same (a b : AO) : Bool :=
  match a.dst with
  | some d => b.dst == some d
  | none => false
def AO.clash (a b : AO) : Bool := (a.hits b || b.hits a) || (a.same b || b.same a)

/-- an operation that looks at one object that is there -/
def AO.near (a : AO) : Bool :=
  match a.g, a.op with
  | none, .ld _ _ (.s _) => true
  | none, .nw (.lookup _ _ _ _ (.s _) _) => true
  | none, .ia _ (.s _) _ => true
  | none, .fa _ (.s _) => true
  | _, _ => false
/-- a call -/
def AO.callA (a : AO) : Bool :=
  match a.g, a.op with
  | none, .call _ _ => true
  | _, _ => false
theorem near_callA {a : AO} (h : a.near = true) : a.callA = false := by
  obtain ⟨d, g, op⟩ := a
  unfold AO.near at h
  unfold AO.callA
  cases g with
  | some _ => rfl
  | none => cases op <;> first | rfl | cases h
/-- an operand that names nothing and that nothing sets later -/
def Ar.still (env : List (Nat × V)) (rest : List AO) : Ar → Bool
  | .c _ => true
  | .s t => (match look env t with | .t _ => true | _ => false) && rest.all (fun o => !(o.dst == some t))

/-- the object that a load looks at, where nothing sets the slot later -/
def nearAt (env : List (Nat × V)) (rest : List AO) (a : AO) : Option Nat :=
  match a.g, a.op with
  | none, .ld _ _ (.s t) =>
    match ((look env t).un true).1, rest.all (fun o => !(o.dst == some t)) with
    | .ptr k _, true => some k
    | .gpt k _ _, true => some k
    | .fpt k _ _, true => some k
    | _, _ => none
  | none, .fa _ (.s t) =>
    match ((look env t).un true).1, rest.all (fun o => !(o.dst == some t)) with
    | .gpt k _ _, true => some k
    | _, _ => none
  | none, .ia _ (.s t) i =>
    match ((look env t).un true).1, rest.all (fun o => !(o.dst == some t)), i.still env rest with
    | .gsl k _ _ _ _, true, true => some k
    | _, _, _ => none
  | _, _ => none
/-- the object that a store changes, where nothing sets the slot later -/
def storeAt (env : List (Nat × V)) (rest : List AO) (a : AO) : Option Nat :=
  match a.g, a.op with
  | none, .st _ (.s t) _ =>
    match (look env t).ug, rest.all (fun o => !(o.dst == some t)) with
    | .ptr k _, true => some k
    | .gpt k _ _, true => some k
    | .fpt k _ _, true => some k
    | _, _ => none
  | none, .app _ _ (.s t) _ =>
    match (look env t).ug, rest.all (fun o => !(o.dst == some t)) with
    | .own k _ _, true => some k
    | .fow k _ _ _, true => some k
    | .gsl k _ _ _ _, true => some k
    | _, _ => none
  | none, .bsl _ _ _ _ =>
    match a.dst with
    | some d =>
      match look env d, rest.tail.all (fun o => !(o.dst == some d)) with
      | .fow k _ _ _, true => some k
      | _, _ => none
    | none => none
  | none, .box _ _ =>
    match a.dst with
    | some d =>
      match look env d, rest.tail.all (fun o => !(o.dst == some d)) with
      | .fpt k _ _, true => some k
      | _, _ => none
    | none => none
  | _, _ => none
/-- a load and a store that concern two objects -/
def offs (aos : List AO) (env : List (Nat × V)) (a b : Nat) : Bool :=
  match nearAt env (aos.drop a) (aos.getD a ⟨none, none, .cst .top⟩), storeAt env (aos.drop b) (aos.getD b ⟨none, none, .cst .top⟩) with
  | some k, some q => !(k == q)
  | _, _ => false

def pairOk (bm : List Nat) (aos : List AO) (fl : List (Bool × Bool)) (env : List (Nat × V)) (j i : Nat) : Bool :=
  (bm.getD i 0).testBit j ||
    (!((aos.getD j ⟨none, none, .cst .top⟩).clash (aos.getD i ⟨none, none, .cst .top⟩)) && !((fl.getD j (false, false)).1 && (fl.getD i (false, false)).2 && !((aos.getD j ⟨none, none, .cst .top⟩).near && !(fl.getD i (false, false)).1) && !((aos.getD j ⟨none, none, .cst .top⟩).callA && !(fl.getD i (false, false)).1) && !(offs aos env j i)) &&
      !((fl.getD i (false, false)).1 && (fl.getD j (false, false)).2 && !((aos.getD i ⟨none, none, .cst .top⟩).near && !(fl.getD j (false, false)).1) && !(offs aos env i j)))

def indep (aos : List AO) (after : List (List Nat)) (fl : List (Bool × Bool)) (env : List (Nat × V)) : Bool :=
  (after.zipIdx.all fun p => p.1.all fun j => decide (j < p.2)) &&
  (List.range aos.length).all fun i => (List.range i).all fun j => pairOk (befores after []) aos fl env j i

theorem offs_inv {aos : List AO} {env : List (Nat × V)} {a b : Nat} (h : offs aos env a b = true) : ∃ k q, nearAt env (aos.drop a) (aos.getD a ⟨none, none, .cst .top⟩) = some k ∧ storeAt env (aos.drop b) (aos.getD b ⟨none, none, .cst .top⟩) = some q ∧ k ≠ q := by
  unfold offs at h
  split at h
  · rename_i k q h1 h2; exact ⟨k, q, h1, h2, by simpa using h⟩
  · cases h

theorem evY_ld {base : Nat} {st : St} {K : Out → Prop} {ag : Bool} {n : Nat} {x : Ar} : evY base st K (.ld ag n x) ↔ False := ⟨(by rintro ⟨_, h, _⟩; cases h), False.elim⟩
theorem evY_lookup {base : Nat} {st : St} {K : Out → Prop} {ks : List KSh} {kag : Bool} {zv : V} {ok : Bool} {x k : Ar} : evY base st K (.nw (.lookup ks kag zv ok x k)) ↔ False := ⟨(by rintro ⟨_, h, _⟩; cases h), False.elim⟩
theorem evY_ia {base : Nat} {st : St} {K : Out → Prop} {sz : Nat} {x i : Ar} : evY base st K (.ia sz x i) ↔ False := ⟨(by rintro ⟨_, h, _⟩; cases h), False.elim⟩
theorem evY_fa {base : Nat} {st : St} {K : Out → Prop} {off : Nat} {x : Ar} : evY base st K (.fa off x) ↔ False := ⟨(by rintro ⟨_, h, _⟩; cases h), False.elim⟩
theorem nearAt_ok {env : List (Nat × V)} {rest : List AO} {a : AO} {k : Nat} (h : nearAt env rest a = some k) : a.near = true ∧ ∀ s ∈ a.reads, (∀ o ∈ rest, o.dst ≠ some s) ∧ ∀ q ps, ((∃ o, (look env s).un true = (.ptr q o, ps)) ∨ (look env s).un true = (.mp q, ps) ∨ (∃ i o, (look env s).un true = (.fpt q i o, ps)) ∨ (∃ ver o, 0 < ver ∧ (look env s).un true = (.gpt q ver o, ps)) ∨ ∃ ver o l z, 0 < ver ∧ (look env s).un true = (.gsl q ver o l z, ps)) → q = k := by
  have hall : ∀ t, rest.all (fun o => !(o.dst == some t)) = true → ∀ o ∈ rest, o.dst ≠ some t := fun t h2 o ho => by
    have := List.all_eq_true.1 h2 o ho
    simpa using this
  obtain ⟨dst, g, op⟩ := a
  unfold nearAt at h
  split at h
  · rename_i ag n t hg hop
    simp only at hg hop; subst hg; subst hop
    refine ⟨rfl, fun s hs => ?_⟩
    have hs' : s = t := by simpa [AO.reads, AOp.slots, Ar.slots] using hs
    subst hs'
    split at h
    · rename_i q o h1 h2
      simp only [Option.some.injEq] at h; subst h
      refine ⟨hall _ h2, fun q' ps hq => ?_⟩
      rcases hq with ⟨o', hq⟩ | hq | ⟨_, _, hq⟩ | ⟨_, _, _, hq⟩ | ⟨_, _, _, _, _, hq⟩ <;> rw [hq] at h1 <;> simp at h1
      exact h1.1
    · rename_i q r o h1 h2
      simp only [Option.some.injEq] at h; subst h
      refine ⟨hall _ h2, fun q' ps hq => ?_⟩
      rcases hq with ⟨o', hq⟩ | hq | ⟨_, _, hq⟩ | ⟨_, _, _, hq⟩ | ⟨_, _, _, _, _, hq⟩ <;> rw [hq] at h1 <;> simp at h1
      exact h1.1
    · rename_i q r o h1 h2
      simp only [Option.some.injEq] at h; subst h
      refine ⟨hall _ h2, fun q' ps hq => ?_⟩
      rcases hq with ⟨o', hq⟩ | hq | ⟨_, _, hq⟩ | ⟨_, _, _, hq⟩ | ⟨_, _, _, _, _, hq⟩ <;> rw [hq] at h1 <;> simp at h1
      exact h1.1
    · cases h
  · rename_i off t hg hop
    simp only at hg hop; subst hg; subst hop
    refine ⟨rfl, fun s hs => ?_⟩
    have hs' : s = t := by simpa [AO.reads, AOp.slots, Ar.slots] using hs
    subst hs'
    split at h
    · rename_i q r o h1 h2
      simp only [Option.some.injEq] at h; subst h
      refine ⟨hall _ h2, fun q' ps hq => ?_⟩
      rcases hq with ⟨o', hq⟩ | hq | ⟨_, _, hq⟩ | ⟨_, _, _, hq⟩ | ⟨_, _, _, _, _, hq⟩ <;> rw [hq] at h1 <;> simp at h1
      exact h1.1
    · cases h
  · rename_i sz t i hg hop
    simp only at hg hop; subst hg; subst hop
    refine ⟨rfl, fun s hs => ?_⟩
    split at h
    · rename_i q r o l z h1 h2 h3
      simp only [Option.some.injEq] at h; subst h
      have hs' : s = t ∨ s ∈ i.slots := by simpa [AO.reads, AOp.slots, Ar.slots] using hs
      rcases hs' with rfl | hs'
      · refine ⟨hall _ h2, fun q' ps hq => ?_⟩
        rcases hq with ⟨o', hq⟩ | hq | ⟨_, _, hq⟩ | ⟨_, _, _, hq⟩ | ⟨_, _, _, _, _, hq⟩ <;> rw [hq] at h1 <;> simp at h1
        exact h1.1
      · cases i with
        | c v => simp [Ar.slots] at hs'
        | s u =>
          have hu : s = u := by simpa [Ar.slots] using hs'
          subst hu
          simp only [Ar.still, Bool.and_eq_true] at h3
          refine ⟨hall _ h3.2, fun q' ps hq => ?_⟩
          have h4 := h3.1
          split at h4
          · rename_i x hx
            rw [hx] at hq
            simp [V.un] at hq
          · cases h4
    · cases h
  · cases h

theorem evY_stP {base : Nat} {st : St} {out : Out} {n k : Nat} {x v : Ar} (hx : (∃ o, x.u st = .ptr k o) ∨ (∃ r o, x.u st = .gpt k r o) ∨ ∃ i o, x.u st = .fpt k i o) (h : YOut st base (.st n x v) out) : ∀ q y, (q, y) ∈ out.ob → q = k := by
  cases h with
  | stG h =>
    rcases hx with ⟨o, hx⟩ | ⟨r, o, hx⟩ | ⟨i, o, hx⟩ <;> rw [hx] at h <;> simp at h
    intro q y hq; simp at hq; rw [hq.1, h.1]
  | stF h =>
    rcases hx with ⟨o, hx⟩ | ⟨r, o, hx⟩ | ⟨i, o, hx⟩ <;> rw [hx] at h <;> simp at h
    intro q y hq; simp at hq; rw [hq.1, h.1]
theorem evY_appP {base : Nat} {st : St} {out : Out} {sz b k : Nat} {x v : Ar} (hx : (∃ s xs, x.u st = .own k s xs) ∨ (∃ i s xs, x.u st = .fow k i s xs) ∨ ∃ r o l s, x.u st = .gsl k r o l s) (h : YOut st base (.app sz b x v) out) : ∀ q y, (q, y) ∈ out.ob → q = k := by
  cases h with
  | appF h =>
    rcases hx with ⟨s, xs, hx⟩ | ⟨i, s, xs, hx⟩ | ⟨r, o, l, s, hx⟩ <;> rw [hx] at h <;> simp at h
    intro q y hq; simp at hq; rw [hq.1, h.1]
  | appN h => rcases hx with ⟨s, xs, hx⟩ | ⟨i, s, xs, hx⟩ | ⟨r, o, l, s, hx⟩ <;> rw [hx] at h <;> simp at h
  | appG h =>
    rcases hx with ⟨s, xs, hx⟩ | ⟨i, s, xs, hx⟩ | ⟨r, o, l, s, hx⟩ <;> rw [hx] at h <;> simp at h
    intro q y hq; simp at hq; rw [hq.1, h.1]

theorem storeAt_ok {P : Program} {env : List (Nat × V)} {rest : List AO} {a : AO} {k : Nat} (h : storeAt env rest a = some k) : (∃ t, (∀ o ∈ rest, o.dst ≠ some t) ∧
    ∀ (base : Nat) (st : St) (out : Out), look st.env t = look env t → evO P base st a (· = out) → ∀ q x, (q, x) ∈ out.ob → q = k) ∨
    ∃ d, a.dst = some d ∧ (∀ o ∈ rest.tail, o.dst ≠ some d) ∧ ∀ (base : Nat) (st : St) (out : Out), look env d = out.v → evO P base st a (· = out) → ∀ q x, (q, x) ∈ out.ob → q = k := by
  have hall : ∀ t, rest.all (fun o => !(o.dst == some t)) = true → ∀ o ∈ rest, o.dst ≠ some t := fun t h2 o ho => by
    have := List.all_eq_true.1 h2 o ho
    simpa using this
  have hall2 : ∀ t, rest.tail.all (fun o => !(o.dst == some t)) = true → ∀ o ∈ rest.tail, o.dst ≠ some t := fun t h2 o ho => by
    have := List.all_eq_true.1 h2 o ho
    simpa using this
  obtain ⟨dst, g, op⟩ := a
  unfold storeAt at h
  split at h
  · rename_i n t w hg hop
    simp only at hg hop; subst hg; subst hop
    have key : ∀ (base : Nat) (st : St) (out : Out), ((∃ o, (Ar.s t).u st = .ptr k o) ∨ (∃ r o, (Ar.s t).u st = .gpt k r o) ∨ ∃ i o, (Ar.s t).u st = .fpt k i o) → evO P base st ⟨dst, none, .st n (.s t) w⟩ (· = out) → ∀ q x, (q, x) ∈ out.ob → q = k := by
      intro base st out hu hev q' x hx
      simp only [evO, evU, evalE] at hev
      rcases hev with hev | ⟨o, hy, rfl⟩
      · simp only [evX] at hev
        rcases hu with ⟨o, hu⟩ | ⟨r, o, hu⟩ | ⟨i, o, hu⟩ <;> rw [hu] at hev <;> simp only at hev
        split at hev
        · split at hev
          · obtain ⟨_, rfl⟩ := hev; simp at hx; exact hx.1
          · exact hev.elim
        · exact hev.elim
      · exact evY_stP hu hy q' x hx
    split at h
    · rename_i q o h1 h2
      simp only [Option.some.injEq] at h; subst h
      exact .inl ⟨t, hall _ h2, fun base st out he => key base st out (.inl ⟨o, by rw [Ar.u, Ar.v, he]; exact h1⟩)⟩
    · rename_i q r o h1 h2
      simp only [Option.some.injEq] at h; subst h
      exact .inl ⟨t, hall _ h2, fun base st out he => key base st out (.inr (.inl ⟨r, o, by rw [Ar.u, Ar.v, he]; exact h1⟩))⟩
    · rename_i q i o h1 h2
      simp only [Option.some.injEq] at h; subst h
      exact .inl ⟨t, hall _ h2, fun base st out he => key base st out (.inr (.inr ⟨i, o, by rw [Ar.u, Ar.v, he]; exact h1⟩))⟩
    · cases h
  · rename_i sz b t w hg hop
    simp only at hg hop; subst hg; subst hop
    have key : ∀ (base : Nat) (st : St) (out : Out), ((∃ s xs, (Ar.s t).u st = .own k s xs) ∨ (∃ i s xs, (Ar.s t).u st = .fow k i s xs) ∨ ∃ r o l s, (Ar.s t).u st = .gsl k r o l s) → evO P base st ⟨dst, none, .app sz b (.s t) w⟩ (· = out) → ∀ q x, (q, x) ∈ out.ob → q = k := by
      intro base st out hu hev q' x hx
      simp only [evO, evU, evalE] at hev
      rcases hev with hev | ⟨o, hy, rfl⟩
      · simp only [evX] at hev
        split at hev
        · rcases hu with ⟨s, xs, hu⟩ | ⟨i, s, xs, hu⟩ | ⟨r, o, l, s, hu⟩ <;> rw [hu] at hev <;> simp only at hev
          split at hev
          · obtain ⟨_, _, _, _, _, rfl⟩ := hev; simp at hx; exact hx.1
          · exact hev.elim
        · exact hev.elim
      · exact evY_appP hu hy q' x hx
    split at h
    · rename_i q s xs h1 h2
      simp only [Option.some.injEq] at h; subst h
      exact .inl ⟨t, hall _ h2, fun base st out he => key base st out (.inl ⟨s, xs, by rw [Ar.u, Ar.v, he]; exact h1⟩)⟩
    · rename_i q i s xs h1 h2
      simp only [Option.some.injEq] at h; subst h
      exact .inl ⟨t, hall _ h2, fun base st out he => key base st out (.inr (.inl ⟨i, s, xs, by rw [Ar.u, Ar.v, he]; exact h1⟩))⟩
    · rename_i q r o l s h1 h2
      simp only [Option.some.injEq] at h; subst h
      exact .inl ⟨t, hall _ h2, fun base st out he => key base st out (.inr (.inr ⟨r, o, l, s, by rw [Ar.u, Ar.v, he]; exact h1⟩))⟩
    · cases h
  · rename_i ow sz zs ps hg hop
    simp only at hg hop; subst hg; subst hop
    split at h
    · rename_i d hd
      simp only at hd; subst hd
      split at h
      · rename_i q i s xs h1 h2
        simp only [Option.some.injEq] at h; subst h
        refine .inr ⟨d, rfl, hall2 _ h2, fun base st out he hev q' x hx => ?_⟩
        rw [h1] at he
        simp only [evO, evU, evalE] at hev
        rcases hev with hev | ⟨o, hy, rfl⟩
        · simp only [evX] at hev
          split at hev
          · split at hev
            · rcases hev.2 with hev | hev
              · split at hev <;> subst hev <;> cases he
              · subst hev; cases he
            · have := hev.2; subst this; cases he
          · exact hev.elim
        · cases hy with
          | bslO _ => cases he
          | bslF _ _ _ => simp at he hx; rw [hx.1, he.1]
      · cases h
    · cases h
  · rename_i nb xb hg hop
    simp only at hg hop; subst hg; subst hop
    split at h
    · rename_i d hd
      simp only at hd; subst hd
      split at h
      · rename_i q i o' h1 h2
        simp only [Option.some.injEq] at h; subst h
        refine .inr ⟨d, rfl, hall2 _ h2, fun base st out he hev q' x hx => ?_⟩
        rw [h1] at he
        simp only [evO, evU, evalE] at hev
        rcases hev with hev | ⟨o, hy, rfl⟩
        · simp only [evX] at hev
          split at hev
          · obtain ⟨_, hev⟩ := hev; subst hev; cases he
          · exact hev.elim
        · cases hy with
          | boxF _ _ _ _ => simp at he hx; rw [hx.1, he.1]
      · cases h
    · cases h
  · cases h

section
variable {P : Program} {ops : Array Oper}

theorem evO_ext {P : Program} {base : Nat} {st st' : St} {ao : AO} {out : Out} (hc : ao.callA = true) (h : ∀ t ∈ ao.reads, look st.env t = look st'.env t) (hs : ∀ k, k < base → aget st'.s.sto k = aget st.s.sto k) (he : evO P base st ao (· = out)) : evO P base st' ao (· = out) := by
  obtain ⟨d, g, op⟩ := ao
  unfold AO.callA at hc
  split at hc
  · rename_i f args hg hop
    simp only at hg hop
    subst hg; subst hop
    simp only [evO, evU, evalE] at he ⊢
    rcases he with he | ⟨o, he, _⟩
    · left
      simp only [evX] at he ⊢
      rw [← argsV_congr (st := st) (st' := st') (fun t ht => h t (by simpa [AO.reads, AOp.slots] using ht))]
      exact FnEv_ext hs he
    · cases he
  · cases hc

structure Eqv (s t : St) : Prop where
  env : ∀ x, look s.env x = look t.env x
  sto : ∀ k, aget s.s.sto k = aget t.s.sto k

theorem Eqv.refl (s : St) : Eqv s s := ⟨fun _ => rfl, fun _ => rfl⟩
theorem Eqv.trans {a b c : St} (h : Eqv a b) (k : Eqv b c) : Eqv a c := ⟨fun x => (h.env x).trans (k.env x), fun x => (h.sto x).trans (k.sto x)⟩
theorem Eqv.symm {a b : St} (h : Eqv a b) : Eqv b a := ⟨fun x => (h.env x).symm, fun x => (h.sto x).symm⟩

theorem RelS.eqv {Λ : L} {s t : S} (h : RelS Λ s) (e : ∀ k, aget s.sto k = aget t.sto k) : RelS Λ t :=
  ⟨fun k o hk => h.sto k o (by rw [e]; exact hk), h.inj, h.new, h.bnd, h.frz, h.injF, h.bndF, h.frzF⟩
theorem Rel.eqv {C : Ctx} {Λ : L} {s t : St} {a : Act} (h : Rel C Λ s a) (e : Eqv s t) : Rel C Λ t a :=
  ⟨h.kp, h.size, h.defers, fun x => by rw [← e.env]; exact h.env x, h.s.eqv e.sto⟩

theorem aget_asets_out : ∀ (ob s : List (Nat × AObj)) (k : Nat), (∀ o, (k, o) ∉ ob) → aget (asets s ob) k = aget s k
  | [], s, k, _ => rfl
  | (j, o) :: r, s, k, h => by
    have hj : j ≠ k := by rintro rfl; exact h o (by simp)
    simp only [asets]
    rw [aget_asets_out r _ k (fun o' ho => h o' (List.mem_cons_of_mem _ ho)), aget_aset]; simp [hj]
theorem aget_asets_in : ∀ (ob s s' : List (Nat × AObj)) (k : Nat), (∃ o, (k, o) ∈ ob) → aget (asets s ob) k = aget (asets s' ob) k
  | [], s, s', k, h => by obtain ⟨o, h⟩ := h; simp at h
  | (j, o) :: r, s, s', k, h => by
    simp only [asets]
    by_cases hr : ∃ o', (k, o') ∈ r
    · exact aget_asets_in r _ _ k hr
    · have hr' : ∀ o', (k, o') ∉ r := fun o' ho => hr ⟨o', ho⟩
      rw [aget_asets_out r _ k hr', aget_asets_out r _ k hr', aget_aset, aget_aset]
      have : j = k := by
        obtain ⟨o', ho⟩ := h
        rcases List.mem_cons.1 ho with e | e
        · simp at e; exact e.1.symm
        · exact (hr' o' e).elim
      simp [this]
theorem aget_asets_congr (ob s s' : List (Nat × AObj)) (h : ∀ k, aget s k = aget s' k) (k : Nat) : aget (asets s ob) k = aget (asets s' ob) k := by
  by_cases hk : ∃ o, (k, o) ∈ ob
  · exact aget_asets_in ob s s' k hk
  · have hk' : ∀ o', (k, o') ∉ ob := fun o' ho => hk ⟨o', ho⟩
    rw [aget_asets_out ob _ k hk', aget_asets_out ob _ k hk', h]

theorem Eqv.app {s t : St} (h : Eqv s t) (d : Option Nat) (o : Out) : Eqv (s.app d o) (t.app d o) := by
  refine ⟨fun x => ?_, aget_asets_congr _ _ _ h.sto⟩
  cases d with
  | none => exact h.env x
  | some d => simp only [St.app, look_aset, h.env x]

theorem app_comm (s : St) {d d' : Option Nat} {o o' : Out} (hd : ∀ x, d = some x → d' ≠ some x) (ho : ∀ k a b, (k, a) ∈ o.ob → (k, b) ∉ o'.ob) : Eqv ((s.app d o).app d' o') ((s.app d' o').app d o) := by
  refine ⟨fun x => ?_, fun k => ?_⟩
  · cases d with
    | none => cases d' <;> simp [St.app, look_aset]
    | some d =>
      cases d' with
      | none => simp [St.app, look_aset]
      | some d' =>
        have : d ≠ d' := by rintro rfl; exact hd d rfl rfl
        simp only [St.app, look_aset]
        by_cases h1 : d = x
        · subst h1; simp [Ne.symm this]
        · simp [h1]
  · show aget (asets (asets s.s.sto o.ob) o'.ob) k = aget (asets (asets s.s.sto o'.ob) o.ob) k
    by_cases hk : ∃ a, (k, a) ∈ o.ob
    · obtain ⟨a, ha⟩ := hk
      rw [aget_asets_out o'.ob _ k (fun b => ho k a b ha)]
      exact aget_asets_in _ _ _ k ⟨a, ha⟩
    · have hk' : ∀ a, (k, a) ∉ o.ob := fun a ha => hk ⟨a, ha⟩
      rw [aget_asets_out o.ob _ k hk']
      by_cases hk2 : ∃ b, (k, b) ∈ o'.ob
      · exact aget_asets_in _ _ _ k hk2
      · have hk2' : ∀ b, (k, b) ∉ o'.ob := fun b hb => hk2 ⟨b, hb⟩
        rw [aget_asets_out o'.ob _ k hk2', aget_asets_out o'.ob _ k hk2', aget_asets_out o.ob _ k hk']

theorem stD_eqv (D : Nat → Bool) : ∀ (r : List AO) (os : List Out) (i : Nat) {s t : St}, Eqv s t → Eqv (stD D i s r os) (stD D i t r os)
  | [], os, i, s, t, h => by cases os <;> exact h
  | ao :: r, [], i, s, t, h => h
  | ao :: r, o :: os, i, s, t, h => by
    simp only [stD]
    refine stD_eqv D r os (i + 1) ?_
    split
    · exact h.app _ _
    · exact h

theorem stD_ext {D D' : Nat → Bool} : ∀ (r : List AO) (os : List Out) (i : Nat) (s : St), (∀ j, i ≤ j → j < i + r.length → D j = D' j) → stD D i s r os = stD D' i s r os
  | [], os, i, s, h => by cases os <;> rfl
  | ao :: r, [], i, s, h => rfl
  | ao :: r, o :: os, i, s, h => by
    simp only [stD, h i (Nat.le_refl _) (by simp)]
    exact stD_ext r os (i + 1) _ (fun j h1 h2 => h j (by omega) (by simp; omega))

theorem stD_none {D : Nat → Bool} : ∀ (r : List AO) (os : List Out) (i : Nat) (s : St), (∀ j, i ≤ j → D j = false) → stD D i s r os = s
  | [], os, i, s, h => by cases os <;> rfl
  | ao :: r, [], i, s, h => rfl
  | ao :: r, o :: os, i, s, h => by
    simp only [stD, h i (Nat.le_refl _), Bool.false_eq_true, if_false]
    exact stD_none r os (i + 1) _ (fun j h1 => h j (by omega))

theorem stD_upto : ∀ (r : List AO) (os : List Out) (i : Nat) (s : St) (n : Nat) (ao : AO) (o : Out), r[n]? = some ao → os[n]? = some o → stD (fun l => decide (l < i + n + 1)) i s r os = (stD (fun l => decide (l < i + n)) i s r os).app ao.dst o
  | [], _, _, _, n, ao, o, h, _ => by simp at h
  | _ :: _, [], _, _, n, ao, o, _, h => by simp at h
  | a :: r, p :: os, i, s, 0, ao, o, h1, h2 => by
    simp at h1 h2; subst h1; subst h2
    have e1 : decide (i < i + 0 + 1) = true := by simp
    have e2 : decide (i < i + 0) = false := by simp
    simp only [stD, e1, e2, if_true]
    rw [stD_none _ _ _ _ (fun j hj => by simp; omega), stD_none _ _ _ _ (fun j hj => by simp; omega)]
    simp
  | a :: r, p :: os, i, s, n + 1, ao, o, h1, h2 => by
    have e1 : decide (i < i + (n + 1) + 1) = true := by simp; omega
    have e2 : decide (i < i + (n + 1)) = true := by simp
    simp only [stD, e1, e2, if_true]
    have := stD_upto r os (i + 1) (s.app a.dst p) n ao o (by simpa using h1) (by simpa using h2)
    have a1 : i + 1 + n + 1 = i + (n + 1) + 1 := by omega
    have a2 : i + 1 + n = i + (n + 1) := by omega
    rw [a1, a2] at this
    exact this

theorem stD_look {D D' : Nat → Bool} {t : Nat} : ∀ (r : List AO) (os : List Out) (i : Nat) (s s' : St), (∀ j ao, r[j]? = some ao → ao.dst = some t → D (i + j) = D' (i + j)) → look s.env t = look s'.env t → look (stD D i s r os).env t = look (stD D' i s' r os).env t
  | [], os, i, s, s', h, e => by cases os <;> exact e
  | ao :: r, [], i, s, s', h, e => e
  | ao :: r, o :: os, i, s, s', h, e => by
    simp only [stD]
    refine stD_look r os (i + 1) _ _ (fun j a hj hd => by have := h (j + 1) a (by simpa using hj) hd; rw [Nat.add_assoc, Nat.add_comm 1 j]; exact this) ?_
    by_cases hd : ao.dst = some t
    · have := h 0 ao rfl hd
      simp only [Nat.add_zero] at this
      rw [this]
      split
      · simp [St.app, hd, look_aset]
      · exact e
    · have key : ∀ (u : St), look (u.app ao.dst o).env t = look u.env t := by
        intro u
        cases hdd : ao.dst with
        | none => rfl
        | some d =>
          have : d ≠ t := by rintro rfl; exact hd hdd
          simp [St.app, look_aset, this]
      have key2 : ∀ (b : Bool) (u : St), look (if b then u.app ao.dst o else u).env t = look u.env t := by
        intro b u; cases b
        · rfl
        · exact key u
      rw [key2, key2]; exact e

theorem stD_sto {D D' : Nat → Bool} : ∀ (r : List AO) (os : List Out) (i : Nat) (s s' : St), (∀ j o, os[j]? = some o → o.ob ≠ [] → D (i + j) = D' (i + j)) → s.s.sto = s'.s.sto → (stD D i s r os).s.sto = (stD D' i s' r os).s.sto
  | [], os, i, s, s', h, e => by cases os <;> exact e
  | ao :: r, [], i, s, s', h, e => e
  | ao :: r, o :: os, i, s, s', h, e => by
    simp only [stD]
    refine stD_sto r os (i + 1) _ _ (fun j a hj hd => by have := h (j + 1) a (by simpa using hj) hd; rw [Nat.add_assoc, Nat.add_comm 1 j]; exact this) ?_
    by_cases hob : o.ob = []
    · have key2 : ∀ (b : Bool) (u : St), (if b then u.app ao.dst o else u).s.sto = u.s.sto := by
        intro b u; cases b
        · rfl
        · simp [St.app, S.app, hob, asets]
      rw [key2, key2]; exact e
    · have := h 0 o rfl hob
      simp only [Nat.add_zero] at this
      rw [this]
      split
      · simp only [St.app, S.app, e]
      · exact e

/-- the object that a value names -/
def V.names (v : V) (k : Nat) : Prop := ∃ ps, pall ps ∧ ((∃ o, v.un true = (.ptr k o, ps)) ∨ v.un true = (.mp k, ps) ∨ (∃ i o, v.un true = (.fpt k i o, ps)) ∨ (∃ ver o, 0 < ver ∧ v.un true = (.gpt k ver o, ps)) ∨ ∃ ver o l z, 0 < ver ∧ v.un true = (.gsl k ver o l z, ps))

theorem V.names_live {Λ : L} {u : Value} {v : V} {k : Nat} (h : RelV Λ u v) (hn : v.names k) (hf : Free Λ k) : False := by
  obtain ⟨ps, hp, hn⟩ := hn
  have key : ∀ y : V, RelV Λ u y → ((∃ o, y = .ptr k o) ∨ y = .mp k ∨ (∃ i o, y = .fpt k i o) ∨ (∃ ver o, 0 < ver ∧ y = .gpt k ver o) ∨ ∃ ver o l z, 0 < ver ∧ y = .gsl k ver o l z) → False := by
    intro y hy hh
    rcases hh with ⟨o, rfl⟩ | rfl | ⟨i, o, rfl⟩ | ⟨ver, o, hv, rfl⟩ | ⟨ver, o, l, z, hv, rfl⟩
    · cases hy; exact hf.obj _ ‹_›
    · cases hy; exact hf.obj _ ‹_›
    · cases hy; exact hf.fob _ _ ‹_›
    · cases hy with
      | gpt _ _ h3 _ => have := hf.frf 0; omega
    · cases hy with
      | gsl _ _ h3 _ => have := hf.frf 0; omega
  cases v <;> simp only [V.un, Prod.mk.injEq] at hn
  case gd c x =>
    have hc : c = true := by
      rcases hn with ⟨o, _, rfl⟩ | ⟨_, rfl⟩ | ⟨_, _, _, rfl⟩ | ⟨_, _, _, _, rfl⟩ | ⟨_, _, _, _, _, _, rfl⟩ <;> simpa [pall] using hp
    subst hc
    cases h with
    | gd h _ =>
      refine key x (h rfl) ?_
      rcases hn with ⟨o, h1, _⟩ | ⟨h1, _⟩ | ⟨i, o, h1, _⟩ | ⟨ver, o, h0, h1, _⟩ | ⟨ver, o, l, z, h0, h1, _⟩
      · exact .inl ⟨o, h1⟩
      · exact .inr (.inl h1)
      · exact .inr (.inr (.inl ⟨i, o, h1⟩))
      · exact .inr (.inr (.inr (.inl ⟨ver, o, h0, h1⟩)))
      · exact .inr (.inr (.inr (.inr ⟨ver, o, l, z, h0, h1⟩)))
  all_goals
    refine key _ h ?_
    rcases hn with ⟨o, h1, _⟩ | ⟨h1, _⟩ | ⟨i, o, h1, _⟩ | ⟨ver, o, h0, h1, _⟩ | ⟨ver, o, l, z, h0, h1, _⟩
    · exact .inl ⟨o, h1⟩
    · exact .inr (.inl h1)
    · exact .inr (.inr (.inl ⟨i, o, h1⟩))
    · exact .inr (.inr (.inr (.inl ⟨ver, o, h0, h1⟩)))
    · exact .inr (.inr (.inr (.inr ⟨ver, o, l, z, h0, h1⟩)))

theorem pall_app1 {a b : List Bool} (h : pall (a ++ b)) : pall a := by
  induction a with
  | nil => trivial
  | cons x r ih => exact ⟨h.1, ih h.2⟩

/-- such an operation sees the same in every store that has the object -/
theorem near_congr {ao : AO} {base : Nat} {st st' : St} {out : Out} (hn : ao.near = true) (h : ∀ t ∈ ao.reads, look st.env t = look st'.env t) (he : evO P base st ao (· = out))
    (hk : ∀ t, t ∈ ao.reads → ∀ k, (look st.env t).names k → aget st.s.sto k ≠ none → aget st.s.sto k = aget st'.s.sto k) : evO P base st' ao (· = out) := by
  obtain ⟨dst, g, op⟩ := ao
  unfold AO.near at hn
  split at hn
  · rename_i ag n t hg hop
    simp only at hg hop; subst hg; subst hop
    have ht := h t (by simp [AO.reads, AOp.slots, Ar.slots])
    have hkt := hk t (by simp [AO.reads, AOp.slots, NOp.slots, Ar.slots])
    simp only [evO, evU, evX, evY_ld, or_false, looksE, evalE, rd, Ar.v] at he ⊢
    rw [← ht]
    generalize look st.env t = v at *
    cases hv : v.un true with
    | mk x p =>
      rw [hv] at he
      cases x with
      | ptr k o =>
        simp only at he ⊢
        have : aget st.s.sto k = aget st'.s.sto k := by
          cases ha : aget st.s.sto k with
          | none => rw [ha] at he; exact he.elim
          | some ob =>
            rw [← ha]
            rw [ha] at he
            refine hkt k ⟨p, ?_, .inl ⟨o, hv⟩⟩ (by rw [ha]; simp)
            cases ob with
            | cells cs =>
              simp only at he
              cases ag with
              | true =>
                simp only [if_true] at he
                split at he
                · rename_i v ps h1; split at h1
                  · simp at h1; obtain ⟨_, rfl⟩ := h1; exact he.1
                  · cases h1
                · exact he.elim
              | false =>
                simp only [Bool.false_eq_true, if_false] at he
                split at he
                · rename_i v ps h1; split at h1
                  · simp at h1; obtain ⟨_, rfl⟩ := h1; exact he.1
                  · cases h1
                · exact he.elim
            | map a b c => exact he.elim
            | arr a => exact he.elim
            | iter a b c d => exact he.elim
            | gro _ _ => exact he.elim
            | fobs _ => exact he.elim
            | farr _ => exact he.elim
            | memo _ _ => exact he.elim
            | abs _ => exact he.elim
        rw [← this]; exact he
      | fpt k i o =>
        simp only at he ⊢
        have : aget st.s.sto k = aget st'.s.sto k := by
          cases ha : aget st.s.sto k with
          | none => rw [ha] at he; exact he.elim
          | some ob =>
            rw [← ha]
            rw [ha] at he
            refine hkt k ⟨p, ?_, .inr (.inr (.inl ⟨i, o, hv⟩))⟩ (by rw [ha]; simp)
            cases ob with
            | fobs os =>
              simp only at he
              cases hos : os[i]? with
              | none => rw [hos] at he; exact he.elim
              | some cs =>
                rw [hos] at he
                simp only at he
                cases ag with
                | true =>
                  simp only [if_true] at he
                  split at he
                  · rename_i v ps h1; split at h1
                    · simp at h1; obtain ⟨_, rfl⟩ := h1; exact he.1
                    · cases h1
                  · exact he.elim
                | false =>
                  simp only [Bool.false_eq_true, if_false] at he
                  split at he
                  · rename_i v ps h1; split at h1
                    · simp at h1; obtain ⟨_, rfl⟩ := h1; exact he.1
                    · cases h1
                  · exact he.elim
            | _ => exact he.elim
        rw [← this]; exact he
      | gpt k ver o =>
        simp only at he ⊢
        have : aget st.s.sto k = aget st'.s.sto k := by
          cases ha : aget st.s.sto k with
          | none => rw [ha] at he; exact he.elim
          | some ob =>
            rw [← ha]
            rw [ha] at he
            cases ob with
            | gro w cs =>
              simp only at he
              have hpp : pall (p ++ [decide (0 < w), decide (ver = w)]) := by
                cases ag with
                | true =>
                  simp only [if_true] at he
                  split at he
                  · rename_i v ps h1; split at h1
                    · simp at h1; obtain ⟨_, rfl⟩ := h1; simpa using he.1
                    · cases h1
                  · exact he.elim
                | false =>
                  simp only [Bool.false_eq_true, if_false] at he
                  split at he
                  · rename_i v ps h1; split at h1
                    · simp at h1; obtain ⟨_, rfl⟩ := h1; simpa using he.1
                    · cases h1
                  · exact he.elim
              have hm := pall_mem hpp
              have m1 := of_decide_eq_true (hm (decide (0 < w)) (by simp))
              have m2 := of_decide_eq_true (hm (decide (ver = w)) (by simp))
              exact hkt k ⟨p, pall_app1 hpp, .inr (.inr (.inr (.inl ⟨ver, o, by omega, hv⟩)))⟩ (by rw [ha]; simp)
            | _ => exact he.elim
        rw [← this]; exact he
      | t z => cases z <;> exact he
      | _ => exact he
  · rename_i ks kag zv ok t y hg hop
    simp only at hg hop; subst hg; subst hop
    have ht := h t (by simp [AO.reads, AOp.slots, NOp.slots, Ar.slots])
    have hy : rd true st y = rd true st' y := rd_congr fun s hs => h s (by simp [AO.reads, AOp.slots, NOp.slots, hs])
    have hkt := hk t (by simp [AO.reads, AOp.slots, NOp.slots, Ar.slots])
    have e1 : rd true st (.s t) = (look st.env t).un true := rfl
    have e2 : rd true st' (.s t) = (look st.env t).un true := by rw [ht]; rfl
    have e3 : Ar.v st' (.s t) = look st.env t := by rw [ht]; rfl
    have e4 : Ar.v st (.s t) = look st.env t := rfl
    simp only [evO, evU, evX, evXN, evY_lookup, or_false, looksE, evalE, evalN, ← hy, e1, e2, e3, e4] at he ⊢
    generalize look st.env t = v at *
    cases hv : v.un true with
    | mk x p =>
      rw [hv] at he
      cases hyv : rd true st y with
      | mk vk p2 =>
        simp only [hyv] at he ⊢
        cases hc : keyC ks kag vk with
        | none => simp only [hc] at he
        | some cs =>
          simp only [hc] at he ⊢
          cases x with
          | mp k =>
            simp only at he ⊢
            have : aget st.s.sto k = aget st'.s.sto k := by
              cases ha : aget st.s.sto k with
              | none => rw [ha] at he; exact he.elim
              | some ob =>
                rw [← ha]
                rw [ha] at he
                refine hkt k ⟨p, ?_, .inr (.inl hv)⟩ (by rw [ha]; simp)
                cases ob with
                | map a es c =>
                  simp only at he
                  cases hm : mget cs es with
                  | some w => rw [hm] at he; exact pall_app1 he.1
                  | none => rw [hm] at he; exact pall_app1 he.1
                | cells a => exact he.elim
                | arr a => exact he.elim
                | iter a b c d => exact he.elim
                | gro _ _ => exact he.elim
                | fobs _ => exact he.elim
                | farr _ => exact he.elim
                | memo _ _ => exact he.elim
                | abs _ => exact he.elim
            rw [← this]; exact he
          | t z => cases z <;> exact he
          | _ => exact he
  · rename_i sz t y hg hop
    simp only at hg hop; subst hg; subst hop
    have ht := h t (by simp [AO.reads, AOp.slots, Ar.slots])
    have hy : rd true st y = rd true st' y := rd_congr fun s hs => h s (by simp [AO.reads, AOp.slots, hs])
    have hkt := hk t (by simp [AO.reads, AOp.slots, Ar.slots])
    have e1 : rd true st (.s t) = (look st.env t).un true := rfl
    have e2 : rd true st' (.s t) = (look st.env t).un true := by rw [ht]; rfl
    have e3 : Ar.v st' (.s t) = look st.env t := by rw [ht]; rfl
    have e4 : Ar.v st (.s t) = look st.env t := rfl
    simp only [evO, evU, evX, evY_ia, or_false, looksE, evalE, ← hy, e1, e2, e3, e4] at he ⊢
    generalize look st.env t = v at *
    cases hv : v.un true with
    | mk x p =>
      rw [hv] at he
      cases hyv : rd true st y with
      | mk vk p2 =>
        simp only [hyv] at he ⊢
        cases x with
        | gsl k ver off len sz' =>
          cases vk with
          | t z =>
            cases z with
            | int kd z =>
              simp only at he ⊢
              have : aget st.s.sto k = aget st'.s.sto k := by
                cases ha : aget st.s.sto k with
                | none => rw [ha] at he; exact he.elim
                | some ob =>
                  rw [← ha]
                  rw [ha] at he
                  cases ob with
                  | gro w cs =>
                    simp only at he
                    have hpp : pall (p ++ (p2 ++ [decide (0 ≤ z), decide (z < (len : Int)), decide (0 < w), decide (ver = w)])) := by
                      split at he
                      · rename_i v ps h1; split at h1
                        · simp at h1; obtain ⟨_, rfl⟩ := h1; simpa using he.1
                        · cases h1
                      · exact he.elim
                    have hm := pall_mem hpp
                    have m1 := of_decide_eq_true (hm (decide (0 < w)) (by simp))
                    have m2 := of_decide_eq_true (hm (decide (ver = w)) (by simp))
                    exact hkt k ⟨p, pall_app1 hpp, .inr (.inr (.inr (.inr ⟨ver, off, len, sz', by omega, hv⟩)))⟩ (by rw [ha]; simp)
                  | _ => exact he.elim
              rw [← this]; exact he
            | _ => exact he
          | _ => exact he
        | _ =>
          cases vk with
          | t z => cases z <;> exact he
          | _ => exact he
  · rename_i off t hg hop
    simp only at hg hop; subst hg; subst hop
    have ht := h t (by simp [AO.reads, AOp.slots, Ar.slots])
    have hkt := hk t (by simp [AO.reads, AOp.slots, Ar.slots])
    have e1 : rd true st (.s t) = (look st.env t).un true := rfl
    have e2 : rd true st' (.s t) = (look st.env t).un true := by rw [ht]; rfl
    have e3 : Ar.v st' (.s t) = look st.env t := by rw [ht]; rfl
    have e4 : Ar.v st (.s t) = look st.env t := rfl
    simp only [evO, evU, evX, evY_fa, or_false, looksE, evalE, e1, e2, e3, e4] at he ⊢
    generalize look st.env t = v at *
    cases hv : v.un true with
    | mk x p =>
      rw [hv] at he
      cases x with
      | gpt k ver o =>
        simp only at he ⊢
        have : aget st.s.sto k = aget st'.s.sto k := by
          cases ha : aget st.s.sto k with
          | none => rw [ha] at he; exact he.elim
          | some ob =>
            rw [← ha]
            rw [ha] at he
            cases ob with
            | gro w cs =>
              simp only at he
              have hpp : pall (p ++ [decide (0 < w), decide (ver = w)]) := by simpa using he.1
              have hm := pall_mem hpp
              have m1 := of_decide_eq_true (hm (decide (0 < w)) (by simp))
              have m2 := of_decide_eq_true (hm (decide (ver = w)) (by simp))
              exact hkt k ⟨p, pall_app1 hpp, .inr (.inr (.inr (.inl ⟨ver, o, by omega, hv⟩)))⟩ (by rw [ha]; simp)
            | _ => exact he.elim
        rw [← this]; exact he
      | t z => cases z <;> exact he
      | _ => exact he
  · cases hn

/-- such an operation leaves all as it is -/
theorem near_sound {ao : AO} {base : Nat} {st : St} {out : Out} {o : Oper} {i : Nat} (ho : ops[i]? = some o) (hres : resO P ops o = some ao) (hn : ao.near = true) (h : evO P base st ao (· = out)) {C : Ctx} {Λ : L} {a : Act} {next : Act → World → Prop} {Q : Exit → Act → World → Prop} (hC : C.P = P) (hr : Rel C Λ st a)
    (hle : base + out.n ≤ Λ.nxt) (hfree : ∀ k, base ≤ k → k < base + out.n → k < Λ.nxt ∧ Free Λ k ∧ aget st.s.sto k = none)
    (hnext : ∀ v Λ', Kp Λ Λ' → Λ'.nxt = Λ.nxt → RelS Λ' (st.s.app out) → RelV Λ' v out.v → (∀ k, Free Λ k → aget st.s.sto k = none → (base + out.n ≤ k ∨ k < base) → Free Λ' k) → next (a.put o.dst v) Λ'.w) :
    ao.dst = o.dst ∧ wpOp P ops Q i next a Λ.w := by
  obtain ⟨dst, g, op⟩ := ao
  have hg : g = none := by
    unfold AO.near at hn; split at hn
    · rename_i h1 _; exact h1
    · rename_i h1 _; exact h1
    · rename_i h1 _; exact h1
    · rename_i h1 _; exact h1
    · cases hn
  subst hg
  have hev : ∃ v ps, evalE true st op = some (v, ps) ∧ pall ps ∧ ({ v := v, rd := looksE st op } : Out) = out := by
    simp only [evO, evU] at h
    split at h
    · rename_i v ps he; exact ⟨v, ps, he, h.1, h.2⟩
    · unfold AO.near at hn
      split at hn
      · rename_i hop; simp only at hop; subst hop; exact (h.elim (fun h => h) evY_ld.1).elim
      · rename_i hop; simp only at hop; subst hop; exact (h.elim (fun h => h) evY_lookup.1).elim
      · rename_i hop; simp only at hop; subst hop; exact (h.elim (fun h => h) evY_ia.1).elim
      · rename_i hop; simp only at hop; subst hop; exact (h.elim (fun h => h) evY_fa.1).elim
      · cases hn
  obtain ⟨v, ps, h1, h2, rfl⟩ := hev
  unfold resO at hres
  split at hres
  · simp at hres
  · rename_i aop hop
    split at hres
    · rename_i hg
      simp only [Option.some.injEq, AO.mk.injEq] at hres
      obtain ⟨e1, _, e2⟩ := hres
      subst e2
      refine ⟨e1.symm, ?_⟩
      have hw : Region.wanted o (yielded ops a.tmps) = true := by simp [Region.wanted, hg]
      simp only [wpOp, ho, hw, if_true]
      refine .inl ?_
      exact OSound.of_E (r := false) (base := base) (evalE_all hop h1 (pall_mem h2)) C Λ a next Q hC hr hle hfree (fun u Λ' k1 k2 k3 k4 k5 => hnext u Λ' k1 k2 k3 k4 fun k f1 f2 hc => k5 k f1 f2 (by
        rcases hc with hc | hc
        · exact .inl hc
        · exact .inr ⟨hc, rfl⟩))
    · split at hres
      · simp at hres
      · cases hres

theorem near_ob {ao : AO} {base : Nat} {st : St} {out : Out} (hn : ao.near = true) (h : evO P base st ao (· = out)) : out.ob = [] := by
  obtain ⟨dst, g, op⟩ := ao
  have hg : g = none := by
    unfold AO.near at hn; split at hn
    · rename_i h1 _; exact h1
    · rename_i h1 _; exact h1
    · rename_i h1 _; exact h1
    · rename_i h1 _; exact h1
    · cases hn
  subst hg
  simp only [evO, evU] at h
  split at h
  · rw [← h.2]
  · unfold AO.near at hn
    split at hn
    · rename_i hop; simp only at hop; subst hop; exact (h.elim (fun h => h) evY_ld.1).elim
    · rename_i hop; simp only at hop; subst hop; exact (h.elim (fun h => h) evY_lookup.1).elim
    · rename_i hop; simp only at hop; subst hop; exact (h.elim (fun h => h) evY_ia.1).elim
    · rename_i hop; simp only at hop; subst hop; exact (h.elim (fun h => h) evY_fa.1).elim
    · cases hn

theorem evO_sound2 {ao : AO} {base : Nat} {st : St} {out : Out} {o : Oper} {i : Nat} (ho : ops[i]? = some o) (hres : resO P ops o = some ao) (h : evO P base st ao (· = out)) {C : Ctx} {Λ : L} {a : Act} {next : Act → World → Prop} {Q : Exit → Act → World → Prop} (hC : C.P = P) (hr : Rel C Λ st a)
    (hdst : ∀ (j : Nat) (p : Oper) (d : Nat), ops[j]? = some p → p.dst = some d → d < C.n)
    (hle : base + out.n ≤ Λ.nxt) (hfree : ∀ k, base ≤ k → k < base + out.n → k < Λ.nxt ∧ Free Λ k ∧ aget st.s.sto k = none)
    (hnext : ∀ v Λ', Kp Λ Λ' → Λ'.nxt = Λ.nxt → RelS Λ' (st.s.app out) → RelV Λ' v out.v → (∀ k, Free Λ k → aget st.s.sto k = none → (base + out.n ≤ k ∨ (k < base ∧ (out.rd = false ∨ ao.near = true))) → Free Λ' k) → next (a.put o.dst v) Λ'.w) :
    ao.dst = o.dst ∧ wpOp P ops Q i next a Λ.w := by
  cases hn : ao.near with
  | true =>
    refine near_sound ho hres hn h hC hr hle hfree fun v Λ' k1 k2 k3 k4 k5 => hnext v Λ' k1 k2 k3 k4 fun k f1 f2 hc => k5 k f1 f2 ?_
    rcases hc with hc | hc
    · exact .inl hc
    · exact .inr hc.1
  | false =>
    refine evO_sound ho hres h hC hr hdst hle hfree fun v Λ' k1 k2 k3 k4 k5 => hnext v Λ' k1 k2 k3 k4 fun k f1 f2 hc => k5 k f1 f2 ?_
    rcases hc with hc | ⟨hc, hd⟩
    · exact .inl hc
    · rcases hd with hd | hd
      · exact .inr ⟨hc, hd⟩
      · rw [hn] at hd; cases hd

theorem stD_sto1 {D D' : Nat → Bool} {k : Nat} : ∀ (r : List AO) (os : List Out) (i : Nat) (s s' : St), (∀ j o, os[j]? = some o → (∃ x, (k, x) ∈ o.ob) → D (i + j) = D' (i + j)) → aget s.s.sto k = aget s'.s.sto k → aget (stD D i s r os).s.sto k = aget (stD D' i s' r os).s.sto k
  | [], os, i, s, s', h, e => by cases os <;> exact e
  | ao :: r, [], i, s, s', h, e => e
  | ao :: r, o :: os, i, s, s', h, e => by
    simp only [stD]
    refine stD_sto1 r os (i + 1) _ _ (fun j a hj hd => by have := h (j + 1) a (by simpa using hj) hd; rw [Nat.add_assoc, Nat.add_comm 1 j]; exact this) ?_
    by_cases hob : ∃ x, (k, x) ∈ o.ob
    · have := h 0 o rfl hob
      simp only [Nat.add_zero] at this
      rw [this]
      split
      · exact aget_asets_in o.ob _ _ k hob
      · exact e
    · have key2 : ∀ (b : Bool) (u : St), aget (if b then u.app ao.dst o else u).s.sto k = aget u.s.sto k := by
        intro b u; cases b
        · rfl
        · exact aget_asets_out o.ob _ k fun x hx => hob ⟨x, hx⟩
      rw [key2, key2]; exact e
theorem stD_back {D : Nat → Bool} {k : Nat} : ∀ (r : List AO) (os : List Out) (i : Nat) (s : St), aget (stD D i s r os).s.sto k ≠ none → aget s.s.sto k ≠ none ∨ ∃ (j : Nat) (o : Out), os[j]? = some o ∧ j < r.length ∧ D (i + j) = true ∧ ∃ x, (k, x) ∈ o.ob
  | [], os, i, s, h => by cases os <;> exact .inl h
  | ao :: r, [], i, s, h => .inl h
  | ao :: r, o :: os, i, s, h => by
    simp only [stD] at h
    rcases stD_back r os (i + 1) _ h with h | ⟨j, p, h1, h2, h3, h4⟩
    · by_cases hD : D i = true
      · by_cases hob : ∃ x, (k, x) ∈ o.ob
        · exact .inr ⟨0, o, rfl, by simp, by simpa using hD, hob⟩
        · left
          simp only [hD, if_true, St.app, S.app] at h
          rw [aget_asets_out o.ob _ k fun x hx => hob ⟨x, hx⟩] at h; exact h
      · left; simpa [hD] using h
    · exact .inr ⟨j + 1, p, by simpa using h1, by simp; omega, by rw [← Nat.add_assoc, Nat.add_right_comm]; exact h3, h4⟩

/-- two operations that do not meet -/
structure Apart (ao : AO) (o : Out) (bo : AO) (p : Out) : Prop where
  dst : ∀ x, ao.dst = some x → bo.dst ≠ some x
  ob : ∀ k a b, (k, a) ∈ o.ob → (k, b) ∉ p.ob

theorem stD_app {D : Nat → Bool} {ao : AO} {o : Out} : ∀ (r : List AO) (os : List Out) (i : Nat) (s : St), (∀ j bo p, r[j]? = some bo → os[j]? = some p → D (i + j) = true → Apart ao o bo p) →
    Eqv (stD D i (s.app ao.dst o) r os) ((stD D i s r os).app ao.dst o)
  | [], os, i, s, h => by cases os <;> exact Eqv.refl _
  | bo :: r, [], i, s, h => Eqv.refl _
  | bo :: r, p :: os, i, s, h => by
    simp only [stD]
    have ih := fun u => stD_app (D := D) (ao := ao) (o := o) r os (i + 1) u (fun j b q hb hq hD => h (j + 1) b q (by simpa using hb) (by simpa using hq) (by rw [Nat.add_assoc, Nat.add_comm 1 j] at hD; exact hD))
    by_cases hD : D i = true
    · simp only [hD, if_true]
      have hap := h 0 bo p rfl rfl (by simpa using hD)
      exact (stD_eqv D r os (i + 1) (app_comm s hap.dst hap.ob)).trans (ih _)
    · simp only [hD, Bool.false_eq_true, if_false]; exact ih s

theorem stD_insert {D D' : Nat → Bool} {n : Nat} {ao : AO} {o : Out} : ∀ (r : List AO) (os : List Out) (i : Nat) (s : St), r[n]? = some ao → os[n]? = some o → D (i + n) = false → D' (i + n) = true → (∀ j, j ≠ i + n → D' j = D j) →
    (∀ j bo p, r[j]? = some bo → os[j]? = some p → n < j → D (i + j) = true → Apart ao o bo p) → Eqv (stD D' i s r os) ((stD D i s r os).app ao.dst o)
  | [], os, i, s, h1, _, _, _, _, _ => by simp at h1
  | bo :: r, [], i, s, _, h2, _, _, _, _ => by simp at h2
  | bo :: r, p :: os, i, s, h1, h2, h3, h4, h5, h6 => by
    cases n with
    | zero =>
      simp at h1 h2; subst h1; subst h2
      simp only [Nat.add_zero] at h3 h4 h5
      simp only [stD, h3, h4, if_true, Bool.false_eq_true, if_false]
      rw [stD_ext (D := D') (D' := D) r os (i + 1) _ (fun j h1 _ => h5 j (by omega))]
      exact stD_app r os (i + 1) s (fun j b q hb hq hD => h6 (j + 1) b q (by simpa using hb) (by simpa using hq) (by omega) (by rw [Nat.add_assoc, Nat.add_comm 1 j] at hD; exact hD))
    | succ n =>
      simp only [stD, h5 i (by omega)]
      have e : i + 1 + n = i + (n + 1) := by omega
      exact stD_insert r os (i + 1) _ (by simpa using h1) (by simpa using h2) (by rw [e]; exact h3) (by rw [e]; exact h4) (fun j hj => h5 j (by omega)) (fun j b q hb hq hlt hD => h6 (j + 1) b q (by simpa using hb) (by simpa using hq) (by omega) (by rw [Nat.add_assoc, Nat.add_comm 1 j] at hD; exact hD))

/-- the order of the text: each operation at its own state -/
theorem Ch.at : ∀ {r : List AO} {os : List Out} {i base : Nat} {s : St} {b' : Nat} {s' : St}, Ch P base s r os b' s' → r.length = os.length ∧ b' = base + sumN os ∧ s' = stD (fun _ => true) i s r os ∧
    ∀ (j : Nat) (ao : AO) (o : Out), r[j]? = some ao → os[j]? = some o → evO P (base + sumN (os.take j)) (stD (fun l => decide (l < i + j)) i s r os) ao (· = o)
  | [], [], i, base, s, b', s', h => by obtain ⟨rfl, rfl⟩ := h; exact ⟨rfl, rfl, rfl, by simp⟩
  | ao :: r, o :: os, i, base, s, b', s', h => by
    obtain ⟨h1, h2⟩ := h
    obtain ⟨i1, i2, i3, i4⟩ := Ch.at (i := i + 1) h2
    refine ⟨by simp [i1], by simp only [sumN]; omega, by simp only [stD, if_true]; exact i3, fun j a p ha hp => ?_⟩
    cases j with
    | zero =>
      simp at ha hp; subst ha; subst hp
      have : stD (fun l => decide (l < i + 0)) i s (ao :: r) (o :: os) = s := stD_none _ _ _ _ (fun j hj => by simp; omega)
      rw [this]; simpa [sumN] using h1
    | succ j =>
      have := i4 j a p (by simpa using ha) (by simpa using hp)
      have e1 : base + o.n + sumN (os.take j) = base + sumN ((o :: os).take (j + 1)) := by simp [sumN]; omega
      have e2 : i + 1 + j = i + (j + 1) := by omega
      rw [e1, e2] at this
      have e3 : decide (i < i + (j + 1)) = true := by simp
      simp only [stD, e3, if_true]
      exact this
  | [], _ :: _, _, _, _, _, _, h => h.elim
  | _ :: _, [], _, _, _, _, _, h => h.elim

end
end Go.GB


/-
  GbT: regions whose order is drawn: the proof.
-/
namespace Go.GB
section
variable {P : Program} {ops : Array Oper}

theorem foldl_bit (f : Nat → Nat) (x : Nat) : ∀ (l : List Nat) (s : Nat), (l.foldl (fun s j => s ||| f j) s).testBit x = (s.testBit x || l.any fun j => (f j).testBit x)
  | [], s => by simp
  | j :: r, s => by simp only [List.foldl_cons, List.any_cons]; rw [foldl_bit f x r]; simp [Nat.testBit_or, Bool.or_assoc]

theorem befores_ok {D : Nat → Bool} {after : List (List Nat)} (hcl : ∀ i, D i = true → ∀ j ∈ after.getD i [], D j = true) : ∀ (suf pre : List (List Nat)) (acc : List Nat), after = pre ++ suf → acc.length = pre.length →
    (∀ i, (∀ j ∈ after.getD i [], D j = true) → ∀ j, (acc.getD i 0).testBit j = true → D j = true) → ∀ i, (∀ j ∈ after.getD i [], D j = true) → ∀ j, ((befores suf acc).getD i 0).testBit j = true → D j = true
  | [], pre, acc, _, _, h => h
  | l :: suf, pre, acc, e, hl, h => by
    refine befores_ok hcl suf (pre ++ [l]) _ (by simp [e]) (by simp [hl]) fun i hi j hj => ?_
    by_cases h1 : i < acc.length
    · rw [List.getD_eq_getElem?_getD, List.getElem?_append_left h1, ← List.getD_eq_getElem?_getD] at hj
      exact h i hi j hj
    · by_cases h2 : i = acc.length
      · subst h2
        rw [List.getD_eq_getElem?_getD, List.getElem?_append_right (Nat.le_refl _)] at hj
        simp only [Nat.sub_self, List.getElem?_cons_zero, Option.getD_some] at hj
        rw [foldl_bit (fun j => 2 ^ j ||| acc.getD j 0)] at hj
        simp only [Nat.zero_testBit, Bool.false_or, List.any_eq_true] at hj
        obtain ⟨q, hq, hb⟩ := hj
        have hlq : after.getD acc.length [] = l := by rw [e, hl, List.getD_eq_getElem?_getD]; simp
        rw [hlq] at hi
        have hDq := hi q hq
        simp only [Nat.testBit_or, Bool.or_eq_true, Nat.testBit_two_pow, decide_eq_true_eq] at hb
        rcases hb with rfl | hb
        · exact hDq
        · exact h q (hcl q hDq) j hb
      · rw [List.getD_eq_getElem?_getD, List.getElem?_eq_none (by simp; omega)] at hj
        simp at hj

theorem evXN_rd {st : St} {op : NOp} {out : Out} (h : evXN st (· = out) op) : out.rd = true := by
  unfold evXN at h
  split at h
  · split at h
    · split at h
      · obtain ⟨_, rfl⟩ := h; rfl
      · exact h.elim
    · exact h.elim
  · split at h
    · split at h
      · obtain ⟨_, rfl⟩ := h; rfl
      · exact h.elim
    · exact h.elim
  · split at h
    · split at h
      · subst h; rfl
      · exact h.elim
    · exact h.elim
  · split at h
    · split at h
      · split at h
        · split at h
          · obtain ⟨_, rfl⟩ := h; rfl
          · exact h.elim
        · obtain ⟨_, rfl⟩ := h; rfl
      · exact h.elim
    · exact h.elim
  · split at h
    · split at h
      · split at h
        · subst h; rfl
        · exact h.elim
      · exact h.elim
    · exact h.elim
  · split at h
    · split at h
      · split at h
        · subst h; rfl
        · subst h; rfl
        · exact h.elim
      · exact h.elim
    · exact h.elim
  · split at h
    · split at h
      · split at h
        · subst h; rfl
        · exact h.elim
      · exact h.elim
    · exact h.elim
  · exact h.elim

theorem evX_new {base : Nat} {st : St} {aop : AOp} {out : Out} (h : evX P base st (· = out) aop) (hr : out.rd = false) : ∀ k o, (k, o) ∈ out.ob → base ≤ k ∧ k < base + out.n := by
  have fnev : ∀ {f : FuncId} {vs : List V} {sto : List (Nat × AObj)}, FnEv P f vs base sto (· = out) → ∀ k o, (k, o) ∈ out.ob → base ≤ k ∧ k < base + out.n := by
    intro f vs sto h k o hk
    obtain ⟨out', h1, rfl⟩ := h
    rw [hr] at h1
    simp only [Bool.false_eq_true, if_false] at h1
    rcases (h1 []).2.1 k o hk with h | h
    · simp [aget] at h
    · exact h
  have fnevS : ∀ {f : FuncId} {vs : List V} {sto : List (Nat × AObj)}, FnEvS P f vs base sto (· = out) → ∀ k o, (k, o) ∈ out.ob → base ≤ k ∧ k < base + out.n := by
    intro f vs sto h k o hk
    obtain ⟨out', h1, rfl⟩ := h
    rw [hr] at h1
    simp only [Bool.false_eq_true, if_false] at h1
    rcases (h1 []).2.1 k o hk with h | h
    · simp [aget] at h
    · exact h
  unfold evX at h
  split at h
  · split at h
    · split at h
      · split at h
        · obtain ⟨_, rfl⟩ := h; simp at hr
        · exact h.elim
      · exact h.elim
    · exact h.elim
  · split at h
    · obtain ⟨_, rfl⟩ := h; intro j ob hj; simp at hj; simp; omega
    · exact h.elim
  · subst h; intro j ob hj; simp at hj; simp; omega
  · split at h
    · obtain ⟨_, h⟩ := h
      split at h
      · rcases h with h | h
        · split at h
          · subst h; intro j ob hj; simp at hj
          · subst h; intro j ob hj; simp at hj; simp; omega
        · subst h; intro j ob hj; simp at hj
      · subst h; intro j ob hj; simp at hj
    · exact h.elim
  · split at h
    · split at h
      · obtain ⟨_, _, _, rfl⟩ := h; intro j ob hj; simp at hj; simp; omega
      · split at h
        · obtain ⟨_, _, _, _, _, rfl⟩ := h; simp at hr
        · exact h.elim
      · exact h.elim
    · exact h.elim
  · split at h
    · obtain ⟨_, rfl⟩ := h; intro j ob hj; simp at hj; simp; omega
    · exact h.elim
  · exact fnev h
  · split at h
    · exact fnevS h
    · exact fnevS h
    · exact h.elim
  · subst h; intro j ob hj; simp at hj; simp; omega
  · split at h
    · split at h
      · subst h; simp at hr
      · exact h.elim
    · exact h.elim
  · split at h
    · subst h; simp at hr
    · split at h
      · subst h; simp at hr
      · exact h.elim
    · exact h.elim
  · rename_i op
    exact absurd hr (by rw [evXN_rd h]; simp)
  · exact h.elim

theorem evXY_new {base : Nat} {st : St} {aop : AOp} {out : Out} (h : evX P base st (· = out) aop ∨ evY base st (· = out) aop) (hr : out.rd = false) : ∀ k o, (k, o) ∈ out.ob → base ≤ k ∧ k < base + out.n := by
  rcases h with h | ⟨o', h, rfl⟩
  · exact evX_new h hr
  · cases h with
    | bslO _ => intro j ob hj; simp at hj; simp; omega
    | _ => simp at hr

theorem evO_new {base : Nat} {st : St} {ao : AO} {out : Out} (h : evO P base st ao (· = out)) (hr : out.rd = false) : ∀ k o, (k, o) ∈ out.ob → base ≤ k ∧ k < base + out.n := by
  unfold evO at h
  split at h
  · unfold evU at h
    split at h
    · obtain ⟨_, rfl⟩ := h; intro j ob hj; simp at hj
    · exact evXY_new h hr
  · split at h
    · exact h.elim
    · rename_i gc _
      split at h
      · obtain ⟨_, rfl⟩ := h; intro j ob hj; simp at hj
      · rcases h with h | h
        · unfold callG at h
          split at h
          · obtain ⟨out0, _, ⟨k2, _⟩, rfl⟩ := h; intro j ob hj; simp [k2] at hj
          · exact h.elim
        cases gc with
        | true => exact evXY_new (h.1 rfl) hr
        | false => have := h.2 rfl; subst this; intro j ob hj; simp at hj

theorem flags_get : ∀ (os : List Out) (j : Nat) (o : Out), os[j]? = some o → (flags os).getD j (false, false) = (o.rd, !o.ob.isEmpty || decide (0 < o.n))
  | [], j, o, h => by simp at h
  | p :: r, 0, o, h => by simp at h; subst h; rfl
  | p :: r, j + 1, o, h => by simp only [flags, List.getD_cons_succ]; exact flags_get r j o (by simpa using h)

theorem sumN_take : ∀ (os : List Out) (j : Nat) (o : Out), os[j]? = some o → sumN (os.take (j + 1)) = sumN (os.take j) + o.n
  | [], j, o, h => by simp at h
  | p :: r, 0, o, h => by simp at h; subst h; simp [sumN]
  | p :: r, j + 1, o, h => by have := sumN_take r j o (by simpa using h); simp [sumN, this]; omega
theorem sumN_mono : ∀ (os : List Out) (i j : Nat), i ≤ j → sumN (os.take i) ≤ sumN (os.take j)
  | [], i, j, _ => by simp
  | p :: r, 0, j, _ => by simp [sumN]
  | p :: r, i + 1, 0, h => by omega
  | p :: r, i + 1, j + 1, h => by have := sumN_mono r i j (by omega); simp [sumN]; omega
theorem sumN_le (os : List Out) (j : Nat) : sumN (os.take j) ≤ sumN os := by
  rcases Nat.le_total j os.length with h | h
  · have := sumN_mono os j os.length h; rwa [List.take_length] at this
  · rw [List.take_of_length_le h]; exact Nat.le_refl _

def dOf (listed : Array Bool) : Nat → Bool := fun j => listed.getD j false

theorem dOf_set (listed : Array Bool) {i : Nat} (hi : i < listed.size) (j : Nat) : dOf (listed.setIfInBounds i true) j = if j = i then true else dOf listed j := by
  unfold dOf
  simp only [Array.getD_eq_getD_getElem?, Array.getElem?_setIfInBounds]
  by_cases e : i = j
  · subst e; simp [hi]
  · simp [e, Ne.symm e]

theorem mem_ready {listed : Array Bool} (hs : listed.size = ops.size) {i : Nat} : i ∈ Region.ready .any ops listed ↔ i < ops.size ∧ dOf listed i = false ∧ ∀ j ∈ (afterOf ops).getD i [], dOf listed j = true := by
  unfold Region.ready
  rw [List.mem_filter, List.mem_range]
  refine ⟨fun ⟨h1, h2⟩ => ⟨h1, ?_⟩, fun ⟨h1, h2, h3⟩ => ⟨h1, ?_⟩⟩
  all_goals
    have ho : ops[i]? = some ops[i] := by simp [h1]
    have hg : (afterOf ops).getD i [] = (ops[i].after.toList.filter (Region.binds .any)).map (·.on) := by
      unfold afterOf
      rw [List.getD_eq_getElem?_getD, List.getElem?_map]
      simp [h1]
  · rw [ho] at h2
    simp only [Option.map_some, Option.getD_some, Bool.and_eq_true, Bool.not_eq_true', Array.all_eq_true'] at h2
    refine ⟨?_, fun j hj => ?_⟩
    · unfold dOf
      have := h2.1
      simp only [Array.getD_eq_getD_getElem?] at this ⊢
      rw [Array.getElem?_eq_getElem (by omega)] at this ⊢
      simpa using this
    · rw [hg, List.mem_map] at hj
      obtain ⟨e, he, rfl⟩ := hj
      rw [List.mem_filter] at he
      have := h2.2 e (by simpa using he.1)
      simp only [he.2, Bool.not_true, Bool.false_or] at this
      exact this
  · rw [ho]
    simp only [Option.map_some, Option.getD_some, Bool.and_eq_true, Bool.not_eq_true', Array.all_eq_true']
    refine ⟨?_, fun e he => ?_⟩
    · unfold dOf at h2
      simp only [Array.getD_eq_getD_getElem?] at h2 ⊢
      rw [Array.getElem?_eq_getElem (by omega)] at h2 ⊢
      simpa using h2
    · by_cases hb : Region.binds .any e = true
      · have := h3 e.on (by rw [hg, List.mem_map]; exact ⟨e, by rw [List.mem_filter]; exact ⟨by simpa using he, hb⟩, rfl⟩)
        unfold dOf at this
        simp [this]
      · simp [hb]

def unl (D : Nat → Bool) : Nat → Nat
  | 0 => 0
  | n + 1 => unl D n + (if D n then 0 else 1)
theorem unl_zero {D : Nat → Bool} : ∀ {n : Nat}, unl D n = 0 → ∀ j, j < n → D j = true
  | 0, _, j, h => by omega
  | n + 1, h, j, hj => by
    simp only [unl] at h
    by_cases e : j = n
    · subst e; by_cases hd : D j = true
      · exact hd
      · simp [hd] at h
    · exact unl_zero (n := n) (by omega) j (by omega)
theorem unl_same {D D' : Nat → Bool} : ∀ {n : Nat}, (∀ j, j < n → D' j = D j) → unl D' n = unl D n
  | 0, _ => rfl
  | n + 1, h => by simp only [unl, h n (by omega), unl_same (n := n) (fun j hj => h j (by omega))]
theorem unl_set {D D' : Nat → Bool} {i : Nat} (hi : D i = false) (hi' : D' i = true) (h : ∀ j, j ≠ i → D' j = D j) : ∀ {n : Nat}, i < n → unl D' n + 1 = unl D n
  | 0, hn => by omega
  | n + 1, hn => by
    simp only [unl]
    by_cases e : i = n
    · subst e; rw [unl_same (D := D) (D' := D') (fun j hj => h j (by omega))]; simp [hi, hi']
    · have := unl_set hi hi' h (n := n) (by omega); rw [h n (Ne.symm e)]; omega
theorem unl_all {D : Nat → Bool} : ∀ {n : Nat}, (∀ j, j < n → D j = false) → unl D n = n
  | 0, _ => rfl
  | n + 1, h => by simp [unl, h n (by omega), unl_all (n := n) (fun j hj => h j (by omega))]

theorem drawn_ops {C : Ctx} (hC : C.P = P) (hd : DstOk C ops) {aos : List AO} (hres : resOs P ops ops.toList = some aos) {Q : Exit → Act → World → Prop} {base b' m : Nat} {st st' : St} {outs : List Out}
    (hch : Ch P base st aos outs b' st') (hind : indep aos (afterOf ops) (flags outs) st'.env = true) (hm : b' ≤ m) (hno : ∀ k, base ≤ k → k < b' → aget st.s.sto k = none) (hq : ∀ (a' : Act) (Λ' : L), Rel C Λ' st' a' → Λ'.nxt = m → Q .normal a' Λ'.w) :
    ∀ (fuel : Nat) (listed : Array Bool) (Λ : L) (a : Act), listed.size = ops.size → unl (dOf listed) ops.size ≤ fuel → (∀ i, dOf listed i = true → ∀ j ∈ (afterOf ops).getD i [], dOf listed j = true) →
      Rel C Λ (stD (dOf listed) 0 st aos outs) a → Λ.nxt = m →
      (∀ i o, outs[i]? = some o → dOf listed i = false → ∀ k, base + sumN (outs.take i) ≤ k → k < base + sumN (outs.take (i + 1)) → Free Λ k ∧ aget (stD (dOf listed) 0 st aos outs).s.sto k = none) →
      wpAny P .any ops Q fuel listed a Λ.w := by
  obtain ⟨hlen, hat⟩ := resOs_at hres
  obtain ⟨hlo, hb', hst', hev⟩ := Ch.at (i := 0) hch
  have hn : aos.length = ops.size := by rw [← hlen]; simp
  simp only [indep, Bool.and_eq_true, List.all_eq_true, decide_eq_true_eq] at hind
  obtain ⟨hlt, hpair⟩ := hind
  have hafter : ∀ i, ∀ j ∈ (afterOf ops).getD i [], j < i := by
    intro i j hj
    rw [List.getD_eq_getElem?_getD] at hj
    cases hg : (afterOf ops)[i]? with
    | none => rw [hg] at hj; simp at hj
    | some l =>
      rw [hg] at hj
      have := hlt (l, i) (by rw [List.mem_zipIdx_iff_getElem?]; simpa using hg) j (by simpa using hj)
      exact this
  -- the names that are set at each operation in the order of the text
  have hpre : ∀ (i : Nat), i ≤ outs.length → ∀ k, aget (stD (fun l => decide (l < i)) 0 st aos outs).s.sto k ≠ none → aget st.s.sto k ≠ none ∨ k < base + sumN (outs.take i) := by
    intro i
    induction i using Nat.strongRecOn with
    | _ i ih =>
      intro hi k hk
      rcases stD_back aos outs 0 st hk with h | ⟨j, o, h1, h2, h3, x, h4⟩
      · exact .inl h
      · simp only [Nat.zero_add, decide_eq_true_eq] at h3
        have hoj := hev j aos[j] o (by simp [h2]) h1
        simp only [Nat.zero_add] at hoj
        rcases evO_names hoj k x h4 with h | ⟨_, h⟩
        · rcases ih j h3 (by omega) k h with h | h
          · exact .inl h
          · right; have := sumN_mono outs j i (by omega); omega
        · right; have := sumN_take outs j o h1; have := sumN_mono outs (j + 1) i (by omega); omega
  -- everything is listed where nothing is ready
  have hall : ∀ (listed : Array Bool), listed.size = ops.size → Region.ready .any ops listed = [] → ∀ i, i < ops.size → dOf listed i = true := by
    intro listed hs hr i
    induction i using Nat.strongRecOn with
    | _ i ih =>
      intro hi
      cases hD : dOf listed i with
      | true => rfl
      | false =>
        exfalso
        have : i ∈ Region.ready .any ops listed := (mem_ready hs).2 ⟨hi, hD, fun j hj => ih j (hafter i j hj) (by have := hafter i j hj; omega)⟩
        rw [hr] at this; simp at this
  have hfin : ∀ (listed : Array Bool) (Λ : L) (a : Act), (∀ i, i < ops.size → dOf listed i = true) → Rel C Λ (stD (dOf listed) 0 st aos outs) a → Λ.nxt = m → Q .normal a Λ.w := by
    intro listed Λ a hl hr hx
    refine hq a Λ ?_ hx
    rw [stD_ext (D' := fun _ => true) aos outs 0 st (fun j _ hj => hl j (by omega)), ← hst'] at hr
    exact hr
  intro fuel
  induction fuel with
  | zero =>
    intro listed Λ a hs hu hcl hr hx _
    have hl := unl_zero (Nat.le_zero.1 hu)
    refine ⟨?_, hfin listed Λ a hl hr hx⟩
    cases hrd : Region.ready .any ops listed with
    | nil => rfl
    | cons i r =>
      have : i ∈ Region.ready .any ops listed := by rw [hrd]; simp
      obtain ⟨h1, h2, _⟩ := (mem_ready hs).1 this
      rw [hl i h1] at h2; cases h2
  | succ fuel ih =>
    intro listed Λ a hs hu hcl hr hx hfr
    refine ⟨fun h0 => hfin listed Λ a (hall listed hs h0) hr hx, fun i hi => ?_⟩
    obtain ⟨hi1, hi2, hi3⟩ := (mem_ready hs).1 hi
    have hanc := befores_ok hcl (afterOf ops) [] [] rfl rfl (fun i _ j hj => by simp at hj)
    have hia : i < aos.length := by omega
    have hio : i < outs.length := by omega
    have hao : aos[i]? = some aos[i] := by simp [hia]
    have hou : outs[i]? = some outs[i] := by simp [hio]
    have ho : ops[i]? = some ops[i] := by simp [hi1]
    have hro := hat i ops[i] aos[i] (by simp) hao
    -- pairs that are not ordered
    have hord : ∀ j ao o, aos[j]? = some ao → outs[j]? = some o → j ≠ i → (decide (j < i) = dOf listed j) ∨
        (ao.clash aos[i] = false ∧ aos[i].clash ao = false ∧ (outs[i].rd && (!o.ob.isEmpty || decide (0 < o.n)) && !(aos[i].near && !o.rd) && !(aos[i].callA && !o.rd && decide (i < j)) && !(offs aos st'.env i j)) = false ∧ (o.rd && (!outs[i].ob.isEmpty || decide (0 < outs[i].n)) && !(ao.near && !outs[i].rd) && !(ao.callA && !outs[i].rd && decide (j < i)) && !(offs aos st'.env j i)) = false) := by
      intro j ao o hj ho' hne
      have hjl := (List.getElem?_eq_some_iff.1 hj).1
      have e1 : aos.getD j ⟨none, none, .cst .top⟩ = ao := by rw [List.getD_eq_getElem?_getD, hj]; rfl
      have e2 : aos.getD i ⟨none, none, .cst .top⟩ = aos[i] := by rw [List.getD_eq_getElem?_getD, hao]; rfl
      have clash_symm : ∀ x y : AO, x.clash y = false → y.clash x = false := by
        intro x y h
        unfold AO.clash at h ⊢
        simp only [Bool.or_eq_false_iff] at h ⊢
        exact ⟨⟨h.1.2, h.1.1⟩, ⟨h.2.2, h.2.1⟩⟩
      rcases Nat.lt_or_gt_of_ne hne with hlt | hlt
      · have hp := hpair i (List.mem_range.2 hia) j (List.mem_range.2 hlt)
        unfold pairOk at hp
        rw [flags_get outs j o ho', flags_get outs i outs[i] hou, e1, e2] at hp
        simp only [Bool.or_eq_true, Bool.and_eq_true, Bool.not_eq_true'] at hp
        rcases hp with hp | ⟨⟨h1, h2⟩, h3⟩
        · left
          rw [hanc i hi3 j hp]; simpa using hlt
        · right
          refine ⟨h1, clash_symm _ _ h1, ?_, ?_⟩
          · rw [show decide (i < j) = false from decide_eq_false (by omega), Bool.and_false, Bool.not_false, Bool.and_true]; exact h3
          · rw [show decide (j < i) = true from decide_eq_true hlt, Bool.and_true]; exact h2
      · have hp := hpair j (List.mem_range.2 hjl) i (List.mem_range.2 hlt)
        unfold pairOk at hp
        rw [flags_get outs j o ho', flags_get outs i outs[i] hou, e1, e2] at hp
        simp only [Bool.or_eq_true, Bool.and_eq_true, Bool.not_eq_true'] at hp
        rcases hp with hp | ⟨⟨h1, h2⟩, h3⟩
        · left
          cases hD : dOf listed j with
          | false => simp; omega
          | true =>
            have := hanc j (hcl j hD) i hp
            rw [this] at hi2; cases hi2
        · right
          refine ⟨clash_symm _ _ h1, h1, ?_, ?_⟩
          · rw [show decide (i < j) = true from decide_eq_true hlt, Bool.and_true]; exact h2
          · rw [show decide (j < i) = false from decide_eq_false (by omega), Bool.and_false, Bool.not_false, Bool.and_true]; exact h3
    have hoffs : ∀ a b : Nat, ∀ ha : a < aos.length, aos[a].near = false → offs aos st'.env a b = false := by
      intro a b ha hn
      cases ho : offs aos st'.env a b with
      | false => rfl
      | true =>
        obtain ⟨k1, q1, g1, _, _⟩ := offs_inv ho
        have e1 : aos.getD a ⟨none, none, .cst .top⟩ = aos[a] := by rw [List.getD_eq_getElem?_getD]; simp [ha]
        rw [e1] at g1
        rw [(nearAt_ok g1).1] at hn; cases hn
    have hend : ∀ (a t : Nat), a ≤ aos.length → (∀ o ∈ aos.drop a, o.dst ≠ some t) → look (stD (fun l => decide (l < a)) 0 st aos outs).env t = look st'.env t := by
      intro a t ha hw
      rw [hst']
      refine stD_look aos outs 0 st st (fun j ao hj hdst => ?_) rfl
      simp only [Nat.zero_add, decide_eq_true_eq]
      apply Classical.byContradiction
      intro hlt
      refine hw ao ?_ hdst
      rw [List.mem_iff_getElem?]
      refine ⟨j - a, ?_⟩
      rw [List.getElem?_drop]
      have : a + (j - a) = j := by omega
      rw [this]; exact hj
    have hself : decide (i < i) = dOf listed i := by rw [hi2]; simp
    have hidx : ∀ j : Nat, ∃ o : Out, ∀ ao : AO, aos[j]? = some ao → outs[j]? = some o := by
      intro j
      by_cases hj : j < outs.length
      · exact ⟨outs[j], fun _ _ => by simp [hj]⟩
      · exact ⟨outs[i], fun ao h => by have := (List.getElem?_eq_some_iff.1 h).1; omega⟩
    -- the operation at the state of the listed ones
    have hevi := hev i aos[i] outs[i] hao hou
    simp only [Nat.zero_add] at hevi
    have hlk : ∀ t ∈ aos[i].reads, look (stD (fun l => decide (l < i)) 0 st aos outs).env t = look (stD (dOf listed) 0 st aos outs).env t := by
      intro t ht
      refine stD_look aos outs 0 st st (fun j ao hj hdst => ?_) rfl
      simp only [Nat.zero_add]
      by_cases e : j = i
      · subst e; exact hself
      · obtain ⟨o, hoo⟩ := hidx j
        rcases hord j ao o hj (hoo ao hj) e with h | ⟨h, _⟩
        · exact h
        · unfold AO.clash at h
          simp only [Bool.or_eq_false_iff] at h
          have := h.1.1
          unfold AO.hits at this
          simp only [hdst, List.contains_eq_mem, decide_eq_false_iff_not] at this
          exact (this ht).elim
    have hevD : evO P (base + sumN (outs.take i)) (stD (dOf listed) 0 st aos outs) aos[i] (· = outs[i]) := by
      by_cases hrd : outs[i].rd = true
      · cases hnear : aos[i].near with
        | false =>
          cases hcall : aos[i].callA with
          | true =>
            refine evO_ext hcall hlk (fun k hk => ?_) hevi
            refine (stD_sto1 aos outs 0 st st (fun j o hj hob => ?_) rfl).symm
            simp only [Nat.zero_add]
            by_cases e : j = i
            · subst e; exact hself
            · have hjl : j < aos.length := by rw [hlo]; exact (List.getElem?_eq_some_iff.1 hj).1
              rcases hord j aos[j] o (by simp [hjl]) hj e with h | ⟨_, _, h, _⟩
              · exact h
              · exfalso
                obtain ⟨x, hx⟩ := hob
                have hne : o.ob.isEmpty = false := by cases hh : o.ob with | nil => rw [hh] at hx; simp at hx | cons _ _ => rfl
                have hof := hoffs i j hia hnear
                simp [hrd, hne, hnear, hof, hcall] at h
                have hoj := hev j aos[j] o (by simp [hjl]) hj
                simp only [Nat.zero_add] at hoj
                have n1 := evO_new hoj h.1 k x hx
                have m1 := sumN_mono outs i j (by omega)
                omega
          | false =>
          refine evO_congr hlk (.inr (stD_sto aos outs 0 st st (fun j o hj hob => ?_) rfl)) hevi
          simp only [Nat.zero_add]
          by_cases e : j = i
          · subst e; exact hself
          · have hjl : j < aos.length := by rw [hlo]; exact (List.getElem?_eq_some_iff.1 hj).1
            rcases hord j aos[j] o (by simp [hjl]) hj e with h | ⟨_, _, h, _⟩
            · exact h
            · have hof := hoffs i j hia hnear
              simp [hrd, hob, hnear, hof, hcall] at h
        | true =>
          refine near_congr hnear hlk hevi fun t ht k hnm hsome => ?_
          refine stD_sto1 aos outs 0 st st (fun j o hj hob => ?_) rfl
          simp only [Nat.zero_add]
          by_cases e : j = i
          · subst e; exact hself
          · have hjl : j < aos.length := by rw [hlo]; exact (List.getElem?_eq_some_iff.1 hj).1
            rcases hord j aos[j] o (by simp [hjl]) hj e with h | ⟨_, _, h, _⟩
            · exact h
            · obtain ⟨x, hx⟩ := hob
              have hne : o.ob.isEmpty = false := by cases hh : o.ob with | nil => rw [hh] at hx; simp at hx | cons _ _ => rfl
              cases hof : offs aos st'.env i j with
              | true =>
                exfalso
                obtain ⟨k1, q1, g1, g2, hne1⟩ := offs_inv hof
                have e1 : aos.getD i ⟨none, none, .cst .top⟩ = aos[i] := by rw [List.getD_eq_getElem?_getD, hao]; rfl
                have e2 : aos.getD j ⟨none, none, .cst .top⟩ = aos[j] := by rw [List.getD_eq_getElem?_getD]; simp [hjl]
                rw [e1] at g1; rw [e2] at g2
                obtain ⟨_, a1⟩ := nearAt_ok g1
                obtain ⟨a2, a3⟩ := a1 t ht
                have hk1 : k = k1 := by
                  obtain ⟨ps, _, hnm⟩ := hnm
                  rw [hend i t (by omega) a2] at hnm
                  exact a3 k ps hnm
                have hoj := hev j aos[j] o (by simp [hjl]) hj
                simp only [Nat.zero_add] at hoj
                have hk2 : k = q1 := by
                  rcases storeAt_ok (P := P) g2 with ⟨t2, b1, b2⟩ | ⟨d, b0, b1, b2⟩
                  · exact b2 _ _ _ (hend j t2 (by omega) b1) hoj k x hx
                  · refine b2 _ _ _ ?_ hoj k x hx
                    rw [← hend (j + 1) d (by omega) (by rw [← List.tail_drop]; exact b1)]
                    have hjo : j < outs.length := (List.getElem?_eq_some_iff.1 hj).1
                    have hs := stD_upto aos outs 0 st j aos[j] o (by simp [hjl]) hj
                    simp only [Nat.zero_add] at hs
                    rw [hs]
                    simp only [St.app, b0, look_aset, if_true]
                exact hne1 (hk1.symm.trans hk2)
              | false =>
                have hord' : o.rd = false := by simpa [hrd, hne, hnear, hof, near_callA hnear] using h
                have hoj := hev j aos[j] o (by simp [hjl]) hj
                have n1 := evO_new hoj hord' k x hx
                have n2 := sumN_take outs j o hj
                cases hD : dOf listed j with
                | false =>
                  exfalso
                  have hf := (hfr j o hj hD k n1.1 (by omega)).1
                  have hv := hr.env t
                  rw [← hlk t ht] at hv
                  exact V.names_live hv hnm hf
                | true =>
                  simp only [decide_eq_true_eq]
                  rcases Nat.lt_or_gt_of_ne e with h | h
                  · exact h
                  · exfalso
                    have m1 := sumN_mono outs i j (by omega)
                    have m2 := sumN_le outs (j + 1)
                    rcases hpre i (by omega) k hsome with g | g
                    · exact g (hno k (by omega) (by omega))
                    · omega
      · exact evO_congr hlk (.inl (by simpa using hrd)) hevi
    have hdst : aos[i].dst = ops[i].dst := by
      have := hro
      unfold resO at this
      split at this
      · cases this
      · split at this
        · simp only [Option.some.injEq] at this; rw [← this]
        · split at this
          · simp only [Option.some.injEq] at this; rw [← this]
          · cases this
    have hsucc := sumN_take outs i outs[i] hou
    have hle1 := sumN_le outs (i + 1)
    refine (evO_sound2 ho hro hevD hC hr hd (by omega) (fun k k1 k2 => ?_) fun v Λ' k1 k2 k3 k4 k5 => ?_).2
    · obtain ⟨f1, f2⟩ := hfr i outs[i] hou hi2 k k1 (by omega)
      exact ⟨by omega, f1, f2⟩
    · have hr1 : Rel C Λ' ((stD (dOf listed) 0 st aos outs).app aos[i].dst outs[i]) (a.put aos[i].dst v) := hr.step k1 (fun x hx => hd i _ x ho (by rw [← hdst]; exact hx)) k4 k3
      have hset := dOf_set listed (i := i) (by omega)
      have heq : Eqv (stD (dOf (listed.setIfInBounds i true)) 0 st aos outs) ((stD (dOf listed) 0 st aos outs).app aos[i].dst outs[i]) := by
        refine stD_insert (n := i) aos outs 0 st hao hou (by simpa using hi2) (by simp [hset]) (fun j hj => by rw [hset]; simp at hj; simp [hj]) (fun j bo p hb hp hlt hD => ?_)
        simp only [Nat.zero_add] at hD
        rcases hord j bo p hb hp (by omega) with h | ⟨h1, h2, h3, h4⟩
        · rw [hD] at h; simp at h; omega
        · refine ⟨fun x hx hbx => ?_, fun k x y hx hy => ?_⟩
          · unfold AO.clash at h2
            simp only [Bool.or_eq_false_iff] at h2
            have := h2.2.1
            unfold AO.same at this
            simp [hx, hbx] at this
          · have hob : outs[i].ob.isEmpty = false := by cases hh : outs[i].ob with | nil => rw [hh] at hx; simp at hx | cons _ _ => rfl
            have hpb : p.ob.isEmpty = false := by cases hh : p.ob with | nil => rw [hh] at hy; simp at hy | cons _ _ => rfl
            have hni : aos[i].near = false := by
              cases hh : aos[i].near with
              | false => rfl
              | true => have := near_ob hh hevi; rw [this] at hx; simp at hx
            have hnb : bo.near = false := by
              cases hh : bo.near with
              | false => rfl
              | true => have := near_ob hh (hev j bo p hb hp); rw [this] at hy; simp at hy
            have hbl : j < aos.length := (List.getElem?_eq_some_iff.1 hb).1
            have hbe : aos[j] = bo := (List.getElem?_eq_some_iff.1 hb).2
            simp only [hpb, hni, hoffs i j hia hni, Bool.not_false, Bool.true_or, Bool.and_true, Bool.false_and] at h3
            simp only [hob, hnb, hoffs j i hbl (by rw [hbe]; exact hnb), show decide (j < i) = false from decide_eq_false (by omega), Bool.and_false, Bool.not_false, Bool.true_or, Bool.and_true, Bool.false_and] at h4
            have n2 := evO_new (hev j bo p hb hp) h4 k y hy
            have m1 := sumN_mono outs (i + 1) j (by omega)
            have m2 := sumN_le outs (j + 1)
            have m3 := sumN_take outs j p hp
            rcases evO_names hevi k x hx with g | ⟨_, g⟩
            · rcases hpre i (by omega) k g with g | g
              · exact g (hno k (by omega) (by omega))
              · omega
            · omega
      have hr2 := hr1.eqv heq.symm
      rw [← hdst]
      have hnm := evO_names hevD
      refine ih (listed.setIfInBounds i true) Λ' _ (by simpa using hs) ?_ (fun j hj l hl => ?_) hr2 (by omega) (fun j o hj hD k h1 h2 => ?_)
      · have := unl_set (D := dOf listed) (D' := dOf (listed.setIfInBounds i true)) (i := i) hi2 (by simp [hset]) (fun j hj => by simp [hset, hj]) hi1
        omega
      · rw [hset] at hj ⊢
        split
        · rfl
        · by_cases e : j = i
          · subst e; exact hi3 l hl
          · simp only [e, if_false] at hj; exact hcl j hj l hl
      · rw [hset] at hD
        have hne : j ≠ i := by rintro rfl; simp at hD
        simp only [hne, if_false] at hD
        obtain ⟨f1, f2⟩ := hfr j o hj hD k h1 h2
        have hout : k < base + sumN (outs.take i) ∨ base + sumN (outs.take i) + outs[i].n ≤ k := by
          rcases Nat.lt_or_gt_of_ne hne with h | h
          · have := sumN_mono outs (j + 1) i (by omega); left; omega
          · have := sumN_mono outs (i + 1) j (by omega); right; omega
        have hout' : base + sumN (outs.take i) + outs[i].n ≤ k ∨ (k < base + sumN (outs.take i) ∧ (outs[i].rd = false ∨ aos[i].near = true)) := by
          rcases hout with h | h
          · right
            refine ⟨h, ?_⟩
            have hon : 0 < o.n := by have := sumN_take outs j o hj; omega
            have hjl : j < aos.length := by rw [hlo]; exact (List.getElem?_eq_some_iff.1 hj).1
            rcases hord j aos[j] o (by simp [hjl]) hj hne with e | ⟨_, _, e, _⟩
            · rw [hD] at e
              simp at e
              have := sumN_mono outs (i + 1) j (by omega)
              omega
            · cases hn1 : outs[i].rd with
              | false => exact .inl rfl
              | true =>
                cases hn2 : aos[i].near with
                | true => exact .inr rfl
                | false =>
                  rw [show decide (i < j) = false from decide_eq_false (by intro hlt; have := sumN_mono outs (i + 1) j (by omega); omega)] at e
                  simp [hn1, hn2, hon, hoffs i j hia hn2] at e
          · exact .inl h
        exact ⟨k5 k f1 f2 hout', by rw [heq.sto]; exact free_after hnm f2 hout _⟩

end
end Go.GB


/-
  GbU: code on abstract states; functions.
-/
namespace Go.GB

inductive AExit where
  | normal
  | exit (id : Nat)
  | ret

def exitOf : Exit → Option AExit
  | .normal => some .normal
  | .exit id => some (.exit id)
  | .ret => some .ret
  | _ => none

/-- every slot that is written lies in the frame -/
def codeOk (n : Nat) : Code → Bool
  | .region _ ops _ => ops.all fun o => match o.dst with | some d => decide (d < n) | none => true
  | .seq a b => codeOk n a && codeOk n b
  | .cond _ a b => codeOk n a && codeOk n b
  | .block _ c => codeOk n c
  | .loop c => codeOk n c
  | .scope c => codeOk n c
  | _ => true

def keepE (live : List Nat) : List (Nat × V) → List (Nat × V)
  | [] => []
  | (t, x) :: r => if live.contains t then (t, x) :: keepE live r else keepE live r

theorem look_keepE (live : List Nat) : ∀ (e : List (Nat × V)) (t : Nat), look (keepE live e) t = look e t ∨ look (keepE live e) t = .top
  | [], t => .inl rfl
  | (k, x) :: r, t => by
    simp only [keepE]
    by_cases hk : live.contains k = true
    · simp only [hk, if_true]
      by_cases e : k = t
      · subst e; left; simp [look, aget]
      · have := look_keepE live r t; simpa [look, aget, e] using this
    · simp only [hk, Bool.false_eq_true, if_false]
      by_cases e : k = t
      · subst e
        right
        have : ∀ r : List (Nat × V), look (keepE live r) k = .top := by
          intro r
          induction r with
          | nil => rfl
          | cons h r ih =>
            obtain ⟨j, y⟩ := h
            simp only [keepE]
            by_cases hj : live.contains j = true
            · have hne : j ≠ k := by rintro rfl; exact hk hj
              simp only [hj, if_true]; simpa [look, aget, hne] using ih
            · simp only [hj, Bool.false_eq_true, if_false]; exact ih
        exact this r
      · have := look_keepE live r t; simpa [look, aget, e] using this

def Post (C : Ctx) (Q : AExit → St → Prop) : Exit → Act → World → Prop := fun e a w => ∃ x st Λ, exitOf e = some x ∧ Q x st ∧ Rel C Λ st a ∧ Λ.nxt = st.s.nxt ∧ Λ.w = w

/-- Code on an abstract state: n slots; m names at the function's entry. -/
def Sat (P : Program) (n m : Nat) (c : ACode) (st : St) (Q : AExit → St → Prop) : Prop :=
  ∀ (code : Code), resC P code = some c.bare → codeOk n code = true → P.follows .mixedOrders = true → ∀ (C : Ctx) (Λ : L) (a : Act), C.P = P → C.n = n → C.Λ.nxt = m → Rel C Λ st a → Λ.nxt = st.s.nxt →
    code.wp P (Post C Q) a Λ.w

section
variable {P : Program} {n m : Nat} {st : St} {Q : AExit → St → Prop}

theorem Sat.mono {c : ACode} {Q' : AExit → St → Prop} (h : Sat P n m c st Q) (hq : ∀ e st, Q e st → Q' e st) : Sat P n m c st Q' := by
  intro code h1 h2 h3 C Λ a h4 h5 h6 h7 h8
  exact wp_mono (h code h1 h2 h3 C Λ a h4 h5 h6 h7 h8) fun e a w ⟨x, s, Λ', k1, k2, k3⟩ => ⟨x, s, Λ', k1, hq _ _ k2, k3⟩

theorem resC_cases {code : Code} {c : ACode} (h : resC P code = some c) :
    match c with
    | .skip => code = .skip
    | .region draw l after live => ∃ id ops, code = .region id ops draw ∧ resOs P ops ops.toList = some l ∧ (draw = true → after = afterOf ops) ∧ live = []
    | .seq a b => ∃ x y, code = .seq x y ∧ resC P x = some a ∧ resC P y = some b
    | .cond z a b => ∃ c x y, code = .cond c x y ∧ opA c = some z ∧ resC P x = some a ∧ resC P y = some b
    | .block id a => ∃ x, code = .block id x ∧ resC P x = some a
    | .loop a => ∃ x, code = .loop x ∧ resC P x = some a
    | .exit id => code = .exit id
    | .ret => code = .ret
    | .scope a => ∃ x, code = .scope x ∧ resC P x = some a
    | .lbl => ∃ l, code = .label l := by
  cases code with
  | skip => simp [resC] at h; subst h; rfl
  | region id ops draw =>
    simp only [resC] at h
    split at h
    · rename_i l hl
      simp at h; subst h
      refine ⟨id, ops, rfl, hl, fun hd => ?_, rfl⟩
      simp [hd]
    · cases h
  | seq a b =>
    simp only [resC] at h
    split at h
    · rename_i x y h1 h2; simp at h; subst h; exact ⟨a, b, rfl, h1, h2⟩
    · cases h
  | cond c a b =>
    simp only [resC] at h
    split at h
    · rename_i z x y h1 h2 h3; simp at h; subst h; exact ⟨c, a, b, rfl, h1, h2, h3⟩
    · cases h
  | block id c => simp only [resC, Option.map_eq_some_iff] at h; obtain ⟨x, h1, rfl⟩ := h; exact ⟨c, rfl, h1⟩
  | loop c => simp only [resC, Option.map_eq_some_iff] at h; obtain ⟨x, h1, rfl⟩ := h; exact ⟨c, rfl, h1⟩
  | exit id => simp [resC] at h; subst h; rfl
  | ret => simp [resC] at h; subst h; rfl
  | scope c => simp only [resC, Option.map_eq_some_iff] at h; obtain ⟨x, h1, rfl⟩ := h; exact ⟨c, rfl, h1⟩
  | label l => simp [resC] at h; subst h; exact ⟨l, rfl⟩
  | _ => simp [resC] at h

theorem Sat.skip (h : Q .normal st) : Sat P n m .skip st Q := by
  intro code h1 h2 _ C Λ a h4 h5 h6 h7 h8
  have := resC_cases h1
  simp only [ACode.bare] at this
  subst this
  exact wp_skip ⟨.normal, st, Λ, rfl, h, h7, h8, rfl⟩

theorem Sat.lbl (h : Q .normal st) : Sat P n m .lbl st Q := by
  intro code h1 h2 _ C Λ a h4 h5 h6 h7 h8
  have := resC_cases h1
  simp only [ACode.bare] at this
  obtain ⟨l, rfl⟩ := this
  exact wp_label ⟨.normal, st, Λ, rfl, h, h7, h8, rfl⟩

theorem Sat.scope {a : ACode} (h : Sat P n m a st Q) : Sat P n m (.scope a) st Q := by
  intro code h1 h2 h3 C Λ ac h4 h5 h6 h7 h8
  have := resC_cases h1
  simp only [ACode.bare] at this
  obtain ⟨x, rfl, hx⟩ := this
  simp only [codeOk] at h2
  refine wp_scope_straight (wp_mono (h x hx h2 h3 C Λ ac h4 h5 h6 h7 h8) fun e a' w' hp => ?_)
  obtain ⟨z, st', Λ', k1, k2, k3, k4, rfl⟩ := hp
  cases e with
  | normal => exact ⟨z, st', Λ', k1, k2, k3, k4, rfl⟩
  | exit id' => exact ⟨z, st', Λ', k1, k2, k3, k4, rfl⟩
  | ret => exact ⟨z, st', Λ', k1, k2, k3, k4, rfl⟩
  | goto l => simp [exitOf] at k1
  | panic c => simp [exitOf] at k1
  | outgrown => simp [exitOf] at k1

theorem Sat.ret (h : Q .ret st) : Sat P n m .ret st Q := by
  intro code h1 h2 _ C Λ a h4 h5 h6 h7 h8
  have := resC_cases h1
  simp only [ACode.bare] at this
  subst this
  exact wp_ret ⟨.ret, st, Λ, rfl, h, h7, h8, rfl⟩

theorem Sat.exit {id : Nat} (h : Q (.exit id) st) : Sat P n m (.exit id) st Q := by
  intro code h1 h2 _ C Λ a h4 h5 h6 h7 h8
  have := resC_cases h1
  simp only [ACode.bare] at this
  subst this
  exact wp_exit ⟨.exit id, st, Λ, rfl, h, h7, h8, rfl⟩

/-- what follows the first part -/
def thenA (K : St → Prop) (Q : AExit → St → Prop) : AExit → St → Prop
  | .normal, st => K st
  | e, st => Q e st

theorem Sat.seq {a b : ACode} (h : Sat P n m a st (thenA (fun st' => Sat P n m b st' Q) Q)) : Sat P n m (.seq a b) st Q := by
  intro code h1 h2 h3 C Λ ac h4 h5 h6 h7 h8
  have := resC_cases h1
  simp only [ACode.bare] at this
  obtain ⟨x, y, rfl, hx, hy⟩ := this
  simp only [codeOk, Bool.and_eq_true] at h2
  refine wp_seq (wp_mono (h x hx h2.1 h3 C Λ ac h4 h5 h6 h7 h8) fun e a' w' hp => ?_)
  obtain ⟨z, st', Λ', k1, k2, k3, k4, rfl⟩ := hp
  cases e with
  | normal =>
    simp [exitOf] at k1; subst k1
    exact k2 y hy h2.2 h3 C Λ' a' h4 h5 h6 k3 k4
  | exit id => simp [exitOf] at k1; subst k1; exact ⟨_, st', Λ', rfl, k2, k3, k4, rfl⟩
  | ret => simp [exitOf] at k1; subst k1; exact ⟨_, st', Λ', rfl, k2, k3, k4, rfl⟩
  | goto l => simp [exitOf] at k1
  | panic c => simp [exitOf] at k1
  | outgrown => simp [exitOf] at k1

theorem Sat.cond {z : Ar} {a b : ACode} {t : Bool} (hz : z.v st = .t (.bool t)) (h : Sat P n m (if t then a else b) st Q) : Sat P n m (.cond z a b) st Q := by
  intro code h1 h2 h3 C Λ ac h4 h5 h6 h7 h8
  have := resC_cases h1
  simp only [ACode.bare] at this
  obtain ⟨c, x, y, rfl, hc, hx, hy⟩ := this
  simp only [codeOk, Bool.and_eq_true] at h2
  have hv := h7.opd hc
  rw [hz] at hv
  refine wp_cond hv.repT.bool_inv ?_
  cases t with
  | true => exact h x hx h2.1 h3 C Λ ac h4 h5 h6 h7 h8
  | false => exact h y hy h2.2 h3 C Λ ac h4 h5 h6 h7 h8

def inBlk (id : Nat) (Q : AExit → St → Prop) : AExit → St → Prop
  | .exit id', st => if id' = id then Q .normal st else Q (.exit id') st
  | e, st => Q e st

theorem Sat.block {id : Nat} {a : ACode} (h : Sat P n m a st (inBlk id Q)) : Sat P n m (.block id a) st Q := by
  intro code h1 h2 h3 C Λ ac h4 h5 h6 h7 h8
  have := resC_cases h1
  simp only [ACode.bare] at this
  obtain ⟨x, rfl, hx⟩ := this
  simp only [codeOk] at h2
  refine wp_block (wp_mono (h x hx h2 h3 C Λ ac h4 h5 h6 h7 h8) fun e a' w' hp => ?_)
  obtain ⟨z, st', Λ', k1, k2, k3, k4, rfl⟩ := hp
  cases e with
  | normal => simp [exitOf] at k1; subst k1; exact ⟨_, st', Λ', rfl, k2, k3, k4, rfl⟩
  | exit id' =>
    simp [exitOf] at k1; subst k1
    simp only [inBlk] at k2
    simp only [Exit.inBlock]
    split
    · rename_i e; simp only [e, if_true] at k2; exact ⟨_, st', Λ', rfl, k2, k3, k4, rfl⟩
    · rename_i e; simp only [e, if_false] at k2; exact ⟨_, st', Λ', rfl, k2, k3, k4, rfl⟩
  | ret => simp [exitOf] at k1; subst k1; exact ⟨_, st', Λ', rfl, k2, k3, k4, rfl⟩
  | goto l => simp [exitOf] at k1
  | panic c => simp [exitOf] at k1
  | outgrown => simp [exitOf] at k1

/-- from the head of a loop on -/
def wpLp (P : Program) (c : Code) (Q : Exit → Act → World → Prop) (a : Act) (w : World) : Prop :=
  ∀ (b : Frame) (k : List Item) (cs : List Frame), ∃ e a' w', Q e a' w' ∧ Arrives P (lone (b.at a (.code c :: .inLoop c :: k)) cs w) b k cs e a' w'

theorem wp_of_lp {c : Code} {Q : Exit → Act → World → Prop} {a : Act} {w : World} (h : wpLp P c Q a w) : (Code.loop c).wp P Q a w := by
  intro b k cs
  obtain ⟨e, a', w', hq, harr⟩ := h b k cs
  exact ⟨e, a', w', hq, .of_steps (.one step_loop) harr⟩

theorem lp_unroll {c : Code} {Q : Exit → Act → World → Prop} {a : Act} {w : World} (h : c.wp P (Exit.then (wpLp P c Q) Q) a w) : wpLp P c Q a w := by
  intro b k cs
  obtain ⟨e, a₁, w₁, hq, harr⟩ := h b (.inLoop c :: k) cs
  cases e with
  | normal =>
    obtain ⟨e₂, a₂, w₂, hq₂, harr₂⟩ := hq b k cs
    exact ⟨e₂, a₂, w₂, hq₂, .of_steps (Steps.trans harr (.one step_inLoop)) harr₂⟩
  | exit id => exact ⟨_, a₁, w₁, hq, .pass (x := .inLoop c) rfl (fun _ _ => .inl (by simp)) harr⟩
  | goto l => exact ⟨_, a₁, w₁, hq, .pass (x := .inLoop c) rfl (fun _ _ => .inl (by simp)) harr⟩
  | ret => exact ⟨_, a₁, w₁, hq, .pass (x := .inLoop c) rfl (fun _ _ => .inl (by simp)) harr⟩
  | panic ch => exact ⟨_, a₁, w₁, hq, .pass (x := .inLoop c) rfl (fun _ _ => .inl (by simp)) harr⟩
  | outgrown => exact ⟨_, a₁, w₁, hq, .pass (x := .inLoop c) rfl (fun _ _ => .inl (by simp)) harr⟩

/-- A loop, from its head on. -/
def SatL (P : Program) (n m : Nat) (c : ACode) (st : St) (Q : AExit → St → Prop) : Prop :=
  ∀ (code : Code), resC P code = some c.bare → codeOk n code = true → P.follows .mixedOrders = true → ∀ (C : Ctx) (Λ : L) (a : Act), C.P = P → C.n = n → C.Λ.nxt = m → Rel C Λ st a → Λ.nxt = st.s.nxt →
    wpLp P code (Post C Q) a Λ.w

theorem Sat.loop {c : ACode} (h : SatL P n m c st Q) : Sat P n m (.loop c) st Q := by
  intro code h1 h2 h3 C Λ ac h4 h5 h6 h7 h8
  have := resC_cases h1
  simp only [ACode.bare] at this
  obtain ⟨x, rfl, hx⟩ := this
  simp only [codeOk] at h2
  exact wp_of_lp (h x hx h2 h3 C Λ ac h4 h5 h6 h7 h8)

theorem SatL.unroll {c : ACode} (h : Sat P n m c st (thenA (fun st' => SatL P n m c st' Q) Q)) : SatL P n m c st Q := by
  intro code h1 h2 h3 C Λ ac h4 h5 h6 h7 h8
  refine lp_unroll (wp_mono (h code h1 h2 h3 C Λ ac h4 h5 h6 h7 h8) fun e a' w' hp => ?_)
  obtain ⟨z, st', Λ', k1, k2, k3, k4, rfl⟩ := hp
  cases e with
  | normal =>
    simp [exitOf] at k1; subst k1
    exact k2 code h1 h2 h3 C Λ' a' h4 h5 h6 k3 k4
  | exit id => simp [exitOf] at k1; subst k1; exact ⟨_, st', Λ', rfl, k2, k3, k4, rfl⟩
  | ret => simp [exitOf] at k1; subst k1; exact ⟨_, st', Λ', rfl, k2, k3, k4, rfl⟩
  | goto l => simp [exitOf] at k1
  | panic c => simp [exitOf] at k1
  | outgrown => simp [exitOf] at k1

/-- Knowing less: k names are kept. -/
theorem Sat.weak {c : ACode} {st' : St} (k : Nat) (h : Sat P n m c st' Q) (h1 : m ≤ k) (h2 : k ≤ st.s.nxt) (h3 : k ≤ st'.s.nxt) (he : LeE k st'.s.nxt st.env st'.env) (hs : LeS k st'.s.nxt st.s.sto st'.s.sto) : Sat P n m c st Q := by
  intro code e1 e2 e3 C Λ a e4 e5 e6 e7 e8
  exact h code e1 e2 e3 C (Λ.cut k st'.s.nxt) a e4 e5 e6 (e7.weak (by omega) (by omega) h3 he hs) rfl

theorem SatL.weak {c : ACode} {st' : St} (k : Nat) (h : SatL P n m c st' Q) (h1 : m ≤ k) (h2 : k ≤ st.s.nxt) (h3 : k ≤ st'.s.nxt) (he : LeE k st'.s.nxt st.env st'.env) (hs : LeS k st'.s.nxt st.s.sto st'.s.sto) : SatL P n m c st Q := by
  intro code e1 e2 e3 C Λ a e4 e5 e6 e7 e8
  exact h code e1 e2 e3 C (Λ.cut k st'.s.nxt) a e4 e5 e6 (e7.weak (by omega) (by omega) h3 he hs) rfl

/-- the state behind a region -/
def regSt (live : List Nat) (b : Nat) (st : St) : St := { env := keepE live st.env, s := { st.s with nxt := b } }

theorem Rel.keep {C : Ctx} {Λ : L} {a : Act} (h : Rel C Λ st a) (live : List Nat) (b : Nat) : Rel C Λ (regSt live b st) a := by
  refine ⟨h.kp, h.size, h.defers, fun t => ?_, ⟨h.s.sto, h.s.inj, h.s.new, h.s.bnd, h.s.frz, h.s.injF, h.s.bndF, h.s.frzF⟩⟩
  rcases look_keepE live st.env t with e | e
  · simp only [regSt, e]; exact h.env t
  · simp only [regSt, e]; exact .top

/-- no region asks for more in an order that is not drawn -/
def regOk (draw : Bool) (ops : List AO) (after : List (List Nat)) (fl : List (Bool × Bool)) (env : List (Nat × V)) : Prop := draw = true → indep ops after fl env = true

theorem Sat.region {draw : Bool} {ops : List AO} {after : List (List Nat)} {live : List Nat} (h : evR P st.s.nxt st ops [] (fun b st' fl => regOk draw ops after fl st'.env ∧ Q .normal (regSt live b st'))) : Sat P n m (.region draw ops after live) st Q := by
  intro code h1 h2 h3 C Λ a h4 h5 h6 h7 h8
  have := resC_cases h1
  simp only [ACode.bare] at this
  obtain ⟨id, os, rfl, hres, haft, _⟩ := this
  obtain ⟨outs, b', st', hch, hok, hq⟩ := evR_chain h
  simp only [List.nil_append] at hok
  have hd : DstOk C os := by
    intro j p d hp hpd
    simp only [codeOk, Array.all_eq_true'] at h2
    have := h2 p (Array.mem_of_getElem? hp)
    rw [hpd] at this
    rw [h5]; simpa using this
  have hle := Ch.le hch
  have hr' := h7.up (m := b') (by omega)
  have hfree : ∀ k, st.s.nxt ≤ k → Free Λ k ∧ aget st.s.sto k = none := by
    intro k hk
    refine ⟨h7.s.free (by omega), ?_⟩
    cases ha : aget st.s.sto k with
    | none => rfl
    | some o => have := (h7.s.sto k o ha).1; omega
  have hfin : ∀ (a' : Act) (Λ' : L), Rel C Λ' st' a' → Λ'.nxt = b' → Post C Q .normal a' Λ'.w := fun a' Λ' k1 k2 => ⟨.normal, _, Λ', rfl, hq, k1.keep live b', k2, rfl⟩
  obtain ⟨hlen, _⟩ := resOs_at hres
  cases draw with
  | false =>
    refine wp_region ?_
    have := seq_ops (Q := Post C Q) h4 hd hres b' ops 0 st.s.nxt st outs (Λ.up b') a rfl hch hr' rfl (Nat.le_refl _) (fun k k1 k2 => ⟨⟨(hfree k k1).1.obj, (hfree k k1).1.arr, (hfree k k1).1.fro, (hfree k k1).1.fob, (hfree k k1).1.far, (hfree k k1).1.frf⟩, (hfree k k1).2⟩) hfin
    rw [List.range_eq_range']
    rw [← hlen, Array.length_toList] at this
    exact this
  | true =>
    refine wp_region_any h3 ?_
    rw [haft rfl] at hok
    have h0 : ∀ j, dOf (Array.replicate os.size false) j = false := by
      intro j; unfold dOf; simp [Array.getD_eq_getD_getElem?, Array.getElem?_replicate]
      split <;> rfl
    have hst0 : stD (dOf (Array.replicate os.size false)) 0 st ops outs = st := stD_none _ _ _ _ (fun j _ => h0 j)
    have hdrew : Rel C { Λ.up b' with w := { Λ.w with drawn := Λ.w.drawn + 1 } } st a := by
      have hk : Kp (Λ.up b') { Λ.up b' with w := { Λ.w with drawn := Λ.w.drawn + 1 } } :=
        ⟨⟨rfl, rfl, rfl, Nat.le_refl _, fun _ _ _ h => ⟨h, rfl⟩, fun _ _ _ _ h o ho => ⟨by simp [Rd, h, ho], rfl⟩, fun _ _ _ _ _ h o ho => ⟨by simp [Rd, h, ho], rfl⟩⟩, Nat.le_refl _, fun _ _ _ h => h, fun _ _ _ _ _ h _ => ⟨h, rfl⟩, fun _ _ => Nat.le_refl _, fun _ _ _ _ h => ⟨h, fun _ h => h⟩, fun _ _ _ _ _ _ h _ => ⟨h, rfl⟩, fun _ _ _ => Nat.le_refl _, fun _ _ _ _ _ _ h => h⟩
      refine ⟨hr'.kp.trans hk, hr'.size, hr'.defers, fun t => (hr'.env t).mono hk, hr'.s.step hk rfl (fun k o ho => .inl ⟨ho, fun _ _ => rfl, rfl⟩) hr'.s.inj hr'.s.new hr'.s.bnd hr'.s.frz ⟨fun _ _ _ => Iff.rfl, fun _ _ _ _ => Iff.rfl, rfl, fun _ _ _ _ => rfl, fun _ _ _ _ _ _ => rfl⟩⟩
    have := drawn_ops (Q := Post C Q) h4 hd hres hch (hok rfl) (Nat.le_refl _) (fun k k1 _ => (hfree k (by omega)).2) hfin os.size (Array.replicate os.size false) { Λ.up b' with w := { Λ.w with drawn := Λ.w.drawn + 1 } } a (by simp) (by rw [unl_all (fun j _ => h0 j)]; exact Nat.le_refl _)
      (fun i hi => by rw [h0] at hi; cases hi) (by rw [hst0]; exact hdrew) rfl (fun i o _ _ k k1 k2 => by
        rw [hst0]
        have hk : st.s.nxt ≤ k := by omega
        exact ⟨⟨(hfree k hk).1.obj, (hfree k hk).1.arr, (hfree k hk).1.fro, (hfree k hk).1.fob, (hfree k hk).1.far, (hfree k hk).1.frf⟩, (hfree k hk).2⟩)
    exact this

end
end Go.GB

