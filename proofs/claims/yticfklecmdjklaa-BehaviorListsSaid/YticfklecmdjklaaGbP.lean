/-
  GbP: calls; every operation does what its evaluation says, guards included.
-/
import Derived.Test.YticfklecmdjklaaGbO
namespace Go.GB
section
variable {P : Program} {ops : Array Oper} {o : Oper} {base : Nat} {st : St}

theorem mapM_opA : ∀ (xs : List Operand) (ys : List Ar), xs.mapM opA = some ys → xs.length = ys.length ∧ ∀ (j : Nat) (x : Operand) (y : Ar), xs[j]? = some x → ys[j]? = some y → opA x = some y := by
  intro xs
  induction xs with
  | nil => intro c h; simp at h; subst h; simp
  | cons d cs ih =>
    intro c h
    simp only [List.mapM_cons, Option.bind_eq_bind, Option.pure_def, Option.bind_eq_some_iff] at h
    obtain ⟨y, hy, c', hc', h⟩ := h
    simp at h; subst h
    obtain ⟨i1, i2⟩ := ih c' hc'
    refine ⟨by simp [i1], fun j e z h1 h2 => ?_⟩
    cases j with
    | zero => simp at h1 h2; subst h1; subst h2; exact hy
    | succ j => exact i2 j e z (by simpa using h1) (by simpa using h2)

theorem argsV_get : ∀ (xs : List Ar) (j : Nat), (argsV st xs)[j]? = (xs[j]?).map (Ar.u st)
  | [], j => by simp [argsV]
  | x :: r, 0 => by simp [argsV]
  | x :: r, j + 1 => by simp [argsV, argsV_get r j]
theorem argsV_len : ∀ (xs : List Ar), (argsV st xs).length = xs.length
  | [] => rfl
  | x :: r => by simp [argsV, argsV_len r]
theorem capsV_get : ∀ (xs : List (Nat × Nat)) (j : Nat), (capsV xs)[j]? = (xs[j]?).map fun c => V.ptr c.1 c.2
  | [], j => by simp [capsV]
  | x :: r, 0 => by simp [capsV]
  | x :: r, j + 1 => by simp [capsV, capsV_get r j]
theorem capsV_len : ∀ (xs : List (Nat × Nat)), (capsV xs).length = xs.length
  | [] => rfl
  | x :: r => by simp [capsV, capsV_len r]

theorem rel_args {C : Ctx} {Λ : L} {a : Act} (hr : Rel C Λ st a) {args : Array Operand} {args' : List Ar} (h : args.toList.mapM opA = some args') :
    (args.map a.eval).size = (argsV st args').length ∧ ∀ (j : Nat) (v : Value) (x : V), (args.map a.eval)[j]? = some v → (argsV st args')[j]? = some x → RelV Λ v x := by
  obtain ⟨h1, h2⟩ := mapM_opA _ _ h
  refine ⟨by simp [argsV_len]; simpa using h1, fun j v x hv hx => ?_⟩
  rw [argsV_get, Option.map_eq_some_iff] at hx
  obtain ⟨y, hy, rfl⟩ := hx
  rw [Array.getElem?_map, Option.map_eq_some_iff] at hv
  obtain ⟨z, hz, rfl⟩ := hv
  exact hr.opu (h2 j z y (by simpa using hz) hy)

theorem o_enter {f : FuncId} {vs : List V} {out : Out} (hf : FnAt P f vs base st.s.sto out)
    (hrun : ∀ (C : Ctx) (Λ : L) (a : Act), Rel C Λ st a → ∃ args : Array Value, (execOp a.eval o).run P Λ.w = .ok (.enter f args) Λ.w ∧ args.size = vs.length ∧ ∀ (j : Nat) (v : Value) (x : V), args[j]? = some v → vs[j]? = some x → RelV Λ v x) :
    OSound P o base st out := by
  intro C Λ a next Q hC hr hle hfree hnext
  obtain ⟨args, h1, h2, h3⟩ := hrun C Λ a hr
  unfold Oper.wp
  rw [h1]
  refine (hf.2.2 Λ args ⟨hr.s.sto, hr.s.inj, hr.s.new, hr.s.bnd, hr.s.frz⟩ hle hfree h2 h3).mono fun e w' h => ?_
  obtain ⟨v, Λ', rfl, rfl, k1, k2, k3, k4, k5⟩ := h
  exact hnext v Λ' k1 k2 ⟨k3.sto, k3.inj, k3.new, k3.bnd, k3.frz⟩ k4 k5

theorem o_call {f : FuncId} {args : Array Operand} {ats : Array TypeId} {args' : List Ar} {out : Out} (ho : o.op = .call { callee := .value (.func f), args := args, argTypes := ats }) (ha : args.toList.mapM opA = some args')
    (hf : FnAt P f (argsV st args') base st.s.sto out) : OSound P o base st out := by
  refine o_enter hf fun C Λ a hr => ?_
  obtain ⟨h1, h2⟩ := rel_args hr ha
  refine ⟨args.map a.eval, ?_, h1, h2⟩
  have hb := hf.1 (args.map a.eval) Λ.w
  simp only [execOp, ho, resolve, Act.eval, Deferred.ofValue, Sem.run_bind, Sem.run_pure, Result.andThen_ok, invoke]
  simpa using hb

theorem o_callv {f : FuncId} {t : Nat} {args : Array Operand} {ats : Array TypeId} {args' : List Ar} {caps : List (Nat × Nat)} {out : Out} (ho : o.op = .call { callee := .value (.tmp t), args := args, argTypes := ats }) (ha : args.toList.mapM opA = some args')
    (hv : (look st.env t).ug = .fn f caps) (hf : FnAt P f (argsV st args' ++ capsV caps) base st.s.sto out) : OSound P o base st out := by
  refine o_enter hf fun C Λ a hr => ?_
  obtain ⟨h1, h2⟩ := rel_args hr ha
  have ht := (hr.env t).ug
  rw [hv] at ht
  generalize he : a.tmps.getD t undef = u at ht
  cases ht with
  | @fn _ vs _ hs hc =>
    refine ⟨args.map a.eval ++ vs, ?_, by simp [argsV_len, capsV_len] at h1 ⊢; omega, fun j v x hj hx => ?_⟩
    · have hb := hf.1 (args.map a.eval ++ vs) Λ.w
      have he' : a.eval (.tmp t) = .func (.func f) #[] vs := he
      simp only [execOp, ho, resolve, he', Deferred.ofValue, Sem.run_bind, Sem.run_pure, Result.andThen_ok, invoke]
      simpa using hb
    · by_cases hjl : j < (args.map a.eval).size
      · rw [Array.getElem?_append_left hjl] at hj
        rw [List.getElem?_append_left (by omega)] at hx
        exact h2 j v x hj hx
      · rw [Array.getElem?_append_right (by omega)] at hj
        rw [List.getElem?_append_right (by omega), capsV_get, Option.map_eq_some_iff] at hx
        obtain ⟨c, hc1, rfl⟩ := hx
        rw [← h1] at hc1
        obtain ⟨b, e1, e2, e3⟩ := hc _ v c hj hc1
        subst e1
        exact .ptr e3 e2

theorem o_callv0 {f : FuncId} {t : Nat} {args : Array Operand} {ats : Array TypeId} {args' : List Ar} {out : Out} (ho : o.op = .call { callee := .value (.tmp t), args := args, argTypes := ats }) (ha : args.toList.mapM opA = some args')
    (hv : (look st.env t).ug = .t (.fn f)) (hf : FnAt P f (argsV st args') base st.s.sto out) : OSound P o base st out := by
  refine o_enter hf fun C Λ a hr => ?_
  obtain ⟨h1, h2⟩ := rel_args hr ha
  have ht := (hr.env t).ug
  rw [hv] at ht
  have he : a.tmps.getD t undef = .func (.func f) #[] #[] := by
    have := ht.repT
    generalize a.tmps.getD t undef = u at this
    cases this; rfl
  refine ⟨args.map a.eval, ?_, h1, h2⟩
  have hb := hf.1 (args.map a.eval) Λ.w
  have he' : a.eval (.tmp t) = .func (.func f) #[] #[] := he
  simp only [execOp, ho, resolve, he', Deferred.ofValue, Sem.run_bind, Sem.run_pure, Result.andThen_ok, invoke]
  simpa using hb

theorem pall_mem : ∀ {ps : List Bool}, pall ps → ∀ q ∈ ps, q = true
  | [], _, q, h => by simp at h
  | p :: r, h, q, hq => by
    simp only [pall] at h
    cases List.mem_cons.1 hq with
    | inl e => subst e; exact h.1
    | inr e => exact pall_mem h.2 q e

/-- one out of an evaluation -/
theorem evX_step {K : Out → Prop} {aop : AOp} (h : evX P base st K aop) : ∃ out, evX P base st (· = out) aop ∧ K out := by
  unfold evX at h
  split at h
  · split at h
    · split at h
      · split at h
        · rename_i h1 _ _ h2 _ _ h3; refine ⟨_, ?_, h.2⟩; simp only [evX, h1, h2, h3]; exact ⟨h.1, by simp⟩
        · exact h.elim
      · exact h.elim
    · exact h.elim
  · split at h
    · rename_i h1; refine ⟨_, ?_, h.2⟩; simp only [evX, h1]; exact ⟨h.1, by simp⟩
    · exact h.elim
  · exact ⟨_, by simp only [evX], h⟩
  · split at h
    · rename_i ow _ _ _ _ _ h1
      cases ow
      · refine ⟨_, ?_, h.2⟩; simp only [evX, h1]; exact ⟨h.1, by simp⟩
      · refine ⟨_, ?_, h.2⟩; simp only [evX, h1]; exact ⟨h.1, by simp⟩
    · exact h.elim
  · split at h
    · split at h
      · rename_i h1 _ h2; refine ⟨_, ?_, h.2.2.2⟩; simp only [evX, h1, h2]; exact ⟨h.1, h.2.1, h.2.2.1, by simp⟩
      · split at h
        · rename_i h1 _ _ _ _ h2 _ _ h3; refine ⟨_, ?_, h.2.2.2.2.2⟩; simp only [evX, h1, h2, h3]; exact ⟨h.1, h.2.1, h.2.2.1, h.2.2.2.1, h.2.2.2.2.1, by simp⟩
        · exact h.elim
      · exact h.elim
    · exact h.elim
  · split at h
    · rename_i h1; refine ⟨_, ?_, h.2⟩; simp only [evX, h1]; exact ⟨h.1, by simp⟩
    · exact h.elim
  · obtain ⟨out, h1, h2⟩ := h; exact ⟨out, ⟨out, h1, rfl⟩, h2⟩
  · split at h
    · rename_i h1; obtain ⟨out, h2, h3⟩ := h; refine ⟨out, ?_, h3⟩; simp only [evX, h1]; exact ⟨out, h2, rfl⟩
    · rename_i h1; obtain ⟨out, h2, h3⟩ := h; refine ⟨out, ?_, h3⟩; simp only [evX, h1]; exact ⟨out, h2, rfl⟩
    · exact h.elim
  · exact h.elim

theorem res_st {n : Nat} {x v : Ar} (h : resOp P ops o = some (.st n x v)) : ∃ t a b, o.op = .store t a b ∧ szOf P t = some n ∧ opA a = some x ∧ opA b = some v := by
  unfold resOp at h
  (repeat' split at h) <;> simp [Option.bind_eq_some_iff] at h
  all_goals try (obtain ⟨_, _, _, _, h⟩ := h; split at h <;> simp [Option.bind_eq_some_iff] at h; done)
  rename_i t a b hop
  obtain ⟨n', hn, a', ha, b', hb, rfl, rfl, rfl⟩ := h
  exact ⟨t, a, b, hop, hn, ha, hb⟩

theorem res_box {n : Nat} {x : Ar} (h : resOp P ops o = some (.box n x)) : ∃ t a, o.op = .box t a ∧ opA a = some x := by
  unfold resOp at h
  (repeat' split at h) <;> simp [Option.bind_eq_some_iff] at h
  all_goals try (obtain ⟨_, _, _, _, h⟩ := h; split at h <;> simp [Option.bind_eq_some_iff] at h; done)
  rename_i t a hop
  obtain ⟨hn, ha⟩ := h
  exact ⟨t, a, hop, ha⟩

theorem res_alloc {zs : List V} (h : resOp P ops o = some (.alloc zs)) : ∃ t, o.op = .alloc t ∧ zerosOf P t = some zs := by
  unfold resOp at h
  (repeat' split at h) <;> simp [Option.bind_eq_some_iff] at h
  all_goals try (obtain ⟨_, _, _, _, h⟩ := h; split at h <;> simp [Option.bind_eq_some_iff] at h; done)
  rename_i t hop
  exact ⟨t, hop, h⟩

theorem res_bsl {ow : Bool} {sz : Nat} {zs : List (List T)} {ps : List (Nat × Ar)} (h : resOp P ops o = some (.bsl ow sz zs ps)) : Nonempty (BslOp P o sz zs ps) := by
  unfold resOp at h
  (repeat' split at h) <;> simp [Option.bind_eq_some_iff] at h
  all_goals try (obtain ⟨_, _, _, _, h⟩ := h; split at h <;> simp [Option.bind_eq_some_iff] at h; done)
  rename_i t n parts hop _ e ht
  obtain ⟨sz', hs, zv, hzv, z, hz, hle, ps', hps, _, rfl, rfl, rfl⟩ := h
  exact ⟨⟨t, e, n, parts, zv, z, hop, ht, hs, hzv, hz, hle, rfl, hps⟩⟩

theorem res_app {sz bytes : Nat} {x y : Ar} (h : resOp P ops o = some (.app sz bytes x y)) : Nonempty (AppOp P o sz bytes x y) := by
  unfold resOp at h
  (repeat' split at h) <;> simp [Option.bind_eq_some_iff] at h
  all_goals try (obtain ⟨_, _, _, _, h⟩ := h; split at h <;> simp [Option.bind_eq_some_iff] at h; done)
  rename_i args ats hop _ _ x' y' t u ha hat htu _ e ht
  obtain ⟨inf, hi, z, hz, hc, a', hx, b', hy, rfl, rfl, rfl, rfl⟩ := h
  subst htu
  exact ⟨⟨x', y', args, ats, t, e, inf, z, hop, ha, hat, ht, hi, hz, rfl, rfl, by omega, by omega, hx, hy⟩⟩

theorem res_mksl {sz bytes : Nat} {z : List V} {n : Ar} (h : resOp P ops o = some (.mksl sz bytes z n)) : ∃ t e l i, o.op = .makeSlice t (.tmp l) (.tmp l) ∧ P.underlying t = some (.slice e) ∧ P.info? e = some i ∧ zerosOf P e = some z ∧ i.size = sz ∧ i.bytes = bytes ∧ n = .s l := by
  unfold resOp at h
  (repeat' split at h) <;> simp [Option.bind_eq_some_iff] at h
  all_goals try (obtain ⟨_, _, _, _, h⟩ := h; split at h <;> simp [Option.bind_eq_some_iff] at h; done)
  rename_i t l c hop _ e ht hlc
  obtain ⟨inf, hi, z', hz, rfl, rfl, rfl, rfl⟩ := h
  subst hlc
  exact ⟨t, e, l, inf, hop, ht, hi, hz, rfl, rfl, rfl⟩

theorem res_call {f : FuncId} {args' : List Ar} (h : resOp P ops o = some (.call f args')) : ∃ args ats, o.op = .call { callee := .value (.func f), args := args, argTypes := ats } ∧ args.toList.mapM opA = some args' := by
  unfold resOp at h
  (repeat' split at h) <;> simp [Option.bind_eq_some_iff] at h
  all_goals try (obtain ⟨_, _, _, _, h⟩ := h; split at h <;> simp [Option.bind_eq_some_iff] at h; done)
  rename_i g args ats hop
  obtain ⟨ha, rfl⟩ := h
  exact ⟨args, ats, hop, ha⟩

theorem res_callv {x : Ar} {args' : List Ar} (h : resOp P ops o = some (.callv x args')) : ∃ t args ats, o.op = .call { callee := .value (.tmp t), args := args, argTypes := ats } ∧ args.toList.mapM opA = some args' ∧ x = .s t := by
  unfold resOp at h
  (repeat' split at h) <;> simp [Option.bind_eq_some_iff] at h
  all_goals try (obtain ⟨_, _, _, _, h⟩ := h; split at h <;> simp [Option.bind_eq_some_iff] at h; done)
  rename_i t args ats hop
  rcases h with ⟨h1, h2⟩
  first | exact ⟨t, args, ats, hop, h1, h2.symm⟩ | exact ⟨t, args, ats, hop, h2, h1.symm⟩

theorem FnEv_eq {f : FuncId} {vs : List V} {sto : List (Nat × AObj)} {out : Out} (h : FnEv P f vs base sto (· = out)) : FnAt P f vs base sto out := by
  obtain ⟨out', h1, rfl⟩ := h
  split at h1
  · exact h1
  · exact h1 sto

theorem evX_sound {aop : AOp} {out : Out} (hres : resOp P ops o = some aop) (h : evX P base st (· = out) aop) : OSound P o base st out := by
  unfold evX at h
  split at h
  · obtain ⟨t, a, b, hop, hn, ha, hb⟩ := res_st hres
    split at h
    · rename_i k off hx
      split at h
      · rename_i cs hk
        split at h
        · rename_i vs hvs
          obtain ⟨⟨h1, h2⟩, rfl⟩ := h
          exact o_store hop hn ha hb hx hk hvs (of_decide_eq_true h1) h2
        · exact h.elim
      · exact h.elim
    · exact h.elim
  · obtain ⟨t, a, hop, ha⟩ := res_box hres
    split at h
    · rename_i vs hvs
      obtain ⟨_, rfl⟩ := h
      exact o_box (n := 0) hop ha hvs
    · exact h.elim
  · obtain ⟨t, hop, hz⟩ := res_alloc hres
    subst h
    exact o_alloc hop hz
  · obtain ⟨B⟩ := res_bsl hres
    split at h
    · rename_i hx
      obtain ⟨_, h⟩ := h
      split at h
      · subst h; exact o_bsl_own B hx
      · subst h; exact o_bsl B hx
    · exact h.elim
  · obtain ⟨A⟩ := res_app hres
    split at h
    · rename_i ys hy
      split at h
      · rename_i hx
        obtain ⟨h1, h2, h3, rfl⟩ := h
        exact o_app_nil A hx hy h1 h2 h3
      · rename_i k s xs hx
        split at h
        · rename_i n hk
          obtain ⟨rfl, rfl, h1, h2, h3, rfl⟩ := h
          exact o_app_own A hx hk hy h1 h2 h3
        · exact h.elim
      · exact h.elim
    · exact h.elim
  · obtain ⟨t, e, l, i, hop, ht, hi, hz, rfl, rfl, rfl⟩ := res_mksl hres
    split at h
    · rename_i m hm
      obtain ⟨⟨h1, h2, h3, h4⟩, rfl⟩ := h
      exact o_mksl hop ht hi hz hm h1 h2 h3
    · exact h.elim
  · obtain ⟨args, ats, hop, ha⟩ := res_call hres
    exact o_call hop ha (FnEv_eq h)
  · obtain ⟨t, args, ats, hop, ha, rfl⟩ := res_callv hres
    split at h
    · rename_i f hv; exact o_callv0 hop ha hv (FnEv_eq h)
    · rename_i f caps hv; exact o_callv hop ha hv (FnEv_eq h)
    · exact h.elim
  · exact h.elim

theorem callG_step {gc : Bool} {K : Out → Prop} {aop : AOp} (h : callG P gc base st K aop) : ∃ out, callG P gc base st (· = out) aop ∧ K out := by
  unfold callG at h ⊢
  split at h
  · obtain ⟨out, h1, h2, h3⟩ := h
    exact ⟨_, ⟨out, h1, h2, rfl⟩, h3⟩
  · exact h.elim

theorem evO_step {ao : AO} {K : Out → Prop} (h : evO P base st ao K) : ∃ out, evO P base st ao (· = out) ∧ K out := by
  unfold evO at h
  split at h
  · rename_i hg
    unfold evU at h
    split at h
    · rename_i v ps he
      refine ⟨_, ?_, h.2⟩
      simp only [evO, hg, evU, he]; exact ⟨h.1, by simp⟩
    · rename_i he
      obtain ⟨out, h1, h2⟩ := evX_step h
      refine ⟨out, ?_, h2⟩
      simp only [evO, hg, evU, he]; exact h1
  · rename_i s want hg
    split at h
    · exact h.elim
    · rename_i gc hc
      split at h
      · rename_i v ps he
        refine ⟨_, ?_, h.2⟩
        simp only [evO, hg, hc, he]; exact ⟨h.1, by simp⟩
      · rename_i he
        rcases h with h | h
        · obtain ⟨out, h1, h2⟩ := callG_step h
          refine ⟨out, ?_, h2⟩
          simp only [evO, hg, hc, he]; exact Or.inl h1
        cases gc with
        | true =>
          obtain ⟨out, h1, h2⟩ := evX_step (h.1 rfl)
          refine ⟨out, ?_, h2⟩
          simp only [evO, hg, hc, he]; exact Or.inr ⟨fun _ => h1, by simp⟩
        | false =>
          refine ⟨_, ?_, h.2 rfl⟩
          simp only [evO, hg, hc, he]; exact Or.inr ⟨by simp, fun _ => by simp⟩

theorem yielded_bool {C : Ctx} {Λ : L} {a : Act} (hr : Rel C Λ st a) {j s : Nat} (hj : (ops[j]?).bind (·.dst) = some s) {want gc : Bool} (hg : gcond want (look st.env s) = some gc) (hlt : s < C.n) :
    (yielded ops a.tmps j == some want) = gc := by
  have hs := hr.env s
  have hget : a.tmps[s]? = some (a.tmps.getD s undef) := by
    rw [Array.getD_eq_getD_getElem?]
    rw [Array.getElem?_eq_getElem (by rw [hr.size]; exact hlt)]
    simp
  unfold yielded
  rw [hj]
  simp only [Option.bind_some, hget]
  generalize a.tmps.getD s undef = u at hs
  unfold gcond at hg
  split at hg
  · rename_i b hl
    rw [hl] at hs
    have := hs.repT.bool_inv
    subst this
    simp at hg; subst hg
    cases b <;> cases want <;> rfl
  · rename_i c b hl
    rw [hl] at hs
    simp at hg
    cases hs with
    | gd h1 h2 =>
      cases c with
      | true =>
        have := (h1 rfl).repT.bool_inv
        subst this; subst hg
        cases b <;> cases want <;> rfl
      | false =>
        have := h2 rfl
        subst this; subst hg
        cases b <;> cases want <;> rfl
  · rename_i hl
    rw [hl] at hs
    simp at hg; subst hg
    cases hs with
    | gd h1 h2 =>
      have := h2 rfl
      subst this
      cases want <;> rfl
  · simp at hg

/-- an operation of a region, guard and all -/
theorem evO_sound {ao : AO} {out : Out} {i : Nat} (ho : ops[i]? = some o) (hres : resO P ops o = some ao) (h : evO P base st ao (· = out)) {C : Ctx} {Λ : L} {a : Act} {next : Act → World → Prop} {Q : Exit → Act → World → Prop} (hC : C.P = P) (hr : Rel C Λ st a)
    (hdst : ∀ (j : Nat) (p : Oper) (d : Nat), ops[j]? = some p → p.dst = some d → d < C.n)
    (hle : base + out.n ≤ Λ.nxt) (hfree : ∀ k, base ≤ k → k < base + out.n → k < Λ.nxt ∧ Free Λ k ∧ aget st.s.sto k = none)
    (hnext : ∀ v Λ', Kp Λ Λ' → Λ'.nxt = Λ.nxt → RelS Λ' (st.s.app out) → RelV Λ' v out.v → (∀ k, Free Λ k → aget st.s.sto k = none → (base + out.n ≤ k ∨ (k < base ∧ out.rd = false)) → Free Λ' k) → next (a.put o.dst v) Λ'.w) :
    ao.dst = o.dst ∧ wpOp P ops Q i next a Λ.w := by
  unfold resO at hres
  split at hres
  · simp at hres
  · rename_i aop hop
    split at hres
    · rename_i hg
      simp at hres; subst hres
      refine ⟨rfl, ?_⟩
      have hw : Region.wanted o (yielded ops a.tmps) = true := by simp [Region.wanted, hg]
      simp only [wpOp, ho, hw, if_true]
      refine .inl ?_
      simp only [evO, evU] at h
      split at h
      · rename_i v ps he
        obtain ⟨h1, rfl⟩ := h
        exact OSound.of_E (evalE_sound hop he (pall_mem h1)) C Λ a next Q hC hr hle hfree hnext
      · exact evX_sound hop h C Λ a next Q hC hr hle hfree hnext
    · rename_i j want hg
      split at hres
      · rename_i s hs
        simp at hres; subst hres
        refine ⟨rfl, ?_⟩
        simp only [evO] at h
        split at h
        · exact h.elim
        · rename_i gc hc
          have hlt : s < C.n := by
            cases hop' : ops[j]? with
            | none => rw [hop'] at hs; simp at hs
            | some p => rw [hop'] at hs; exact hdst j p s hop' (by simpa using hs)
          have hy := yielded_bool hr hs hc hlt
          have hw : Region.wanted o (yielded ops a.tmps) = gc := by simp only [Region.wanted, hg]; exact hy
          simp only [wpOp, ho, hw]
          split at h
          · rename_i v ps he
            obtain ⟨h1, rfl⟩ := h
            cases gc with
            | true =>
              simp only [if_true]
              refine .inl ?_
              have hps : ∀ q ∈ ps, q = true := by
                intro q hq
                have := pall_mem h1 (!true || q) (List.mem_map.2 ⟨q, hq, rfl⟩)
                simpa using this
              refine OSound.of_E (r := looksE st aop) (evalE_sound hop he hps) C Λ a next Q hC hr (by simp at hle ⊢; omega) (fun k h1 h2 => by simp at h2; omega) fun v' Λ' a1 a2 a3 a4 a5 => hnext v' Λ' a1 a2 a3 (.gd (fun _ => a4) (by simp)) a5
            | false =>
              simp only [Bool.false_eq_true, if_false]
              exact hnext undef Λ (Kp.refl _) rfl hr.s (.gd (by simp) (fun _ => rfl)) (fun _ h _ _ => h)
          · rcases h with h | h
            · unfold callG at h
              split at h
              · rename_i fid args0 _
                obtain ⟨out0, k1, ⟨k2, k3⟩, rfl⟩ := h
                obtain ⟨args, ats, hop', ha⟩ := res_call hop
                cases gc with
                | true =>
                  simp only [if_true]
                  have hf : FnAt P fid (argsV st args0) base st.s.sto out0 := by
                    have := k1 rfl
                    split at this
                    · exact this
                    · exact this _
                  have hso : OSound P o base st out0 := o_call hop' ha hf
                  refine .inl (hso C Λ a next Q hC hr hle hfree fun v' Λ' a1 a2 a3 a4 a5 => hnext v' Λ' a1 a2 a3 (.gd (fun _ => a4) (by simp)) a5)
                | false =>
                  simp only [Bool.false_eq_true, if_false]
                  refine hnext undef Λ (Kp.refl _) rfl ?_ (.gd (by simp) (fun _ => rfl)) (fun _ h _ _ => h)
                  simp only [S.app, k2, asets]
                  exact hr.s
              · exact h.elim
            cases gc with
            | true =>
              simp only [if_true]
              exact .inl (evX_sound hop (h.1 rfl) C Λ a next Q hC hr hle hfree hnext)
            | false =>
              simp only [Bool.false_eq_true, if_false]
              have := h.2 rfl
              subst this
              exact hnext undef Λ (Kp.refl _) rfl hr.s (.gd (by simp) (fun _ => rfl)) (fun _ h _ _ => h)
      · simp at hres

end
end Go.GB
