/-
  GbT: regions whose order is drawn: the proof.
-/
import Derived.Test.YticfklecmdjklaaGbS
namespace Go.GB
section
variable {P : Program} {ops : Array Oper}

theorem foldl_bit (f : Nat → Nat) (x : Nat) : ∀ (l : List Nat) (s : Nat), (l.foldl (fun s j => s ||| f j) s).testBit x = (s.testBit x || l.any fun j => (f j).testBit x)
  | [], s => by simp
  | j :: r, s => by simp only [List.foldl_cons, List.any_cons]; rw [foldl_bit f x r]; simp [Nat.testBit_or, Bool.or_assoc]

theorem befores_ok {D : Nat → Bool} {after : List (List Nat)} (hcl : ∀ i, D i = true → ∀ j ∈ after.getD i [], D j = true) : ∀ (suf pre : List (List Nat)) (acc : List Nat), after = pre ++ suf → acc.length = pre.length →
    (∀ i, (∀ j ∈ after.getD i [], D j = true) → ∀ j, (acc.getD i 0).testBit j = true → D j = true) → ∀ i, (∀ j ∈ after.getD i [], D j = true) → ∀ j, ((befores suf acc).getD i 0).testBit j = true → D j = true
  | [], pre, acc, _, _, h => h
  | l :: suf, pre, acc, e, hl, h => by
    refine befores_ok hcl suf (pre ++ [l]) _ (by simp [e]) (by simp [hl]) fun i hi j hj => ?_
    by_cases h1 : i < acc.length
    · rw [List.getD_eq_getElem?_getD, List.getElem?_append_left h1, ← List.getD_eq_getElem?_getD] at hj
      exact h i hi j hj
    · by_cases h2 : i = acc.length
      · subst h2
        rw [List.getD_eq_getElem?_getD, List.getElem?_append_right (Nat.le_refl _)] at hj
        simp only [Nat.sub_self, List.getElem?_cons_zero, Option.getD_some] at hj
        rw [foldl_bit (fun j => 2 ^ j ||| acc.getD j 0)] at hj
        simp only [Nat.zero_testBit, Bool.false_or, List.any_eq_true] at hj
        obtain ⟨q, hq, hb⟩ := hj
        have hlq : after.getD acc.length [] = l := by rw [e, hl, List.getD_eq_getElem?_getD]; simp
        rw [hlq] at hi
        have hDq := hi q hq
        simp only [Nat.testBit_or, Bool.or_eq_true, Nat.testBit_two_pow, decide_eq_true_eq] at hb
        rcases hb with rfl | hb
        · exact hDq
        · exact h q (hcl q hDq) j hb
      · rw [List.getD_eq_getElem?_getD, List.getElem?_eq_none (by simp; omega)] at hj
        simp at hj

theorem evX_new {base : Nat} {st : St} {aop : AOp} {out : Out} (h : evX P base st (· = out) aop) (hr : out.rd = false) : ∀ k o, (k, o) ∈ out.ob → base ≤ k ∧ k < base + out.n := by
  have fnev : ∀ {f : FuncId} {vs : List V} {sto : List (Nat × AObj)}, FnEv P f vs base sto (· = out) → ∀ k o, (k, o) ∈ out.ob → base ≤ k ∧ k < base + out.n := by
    intro f vs sto h k o hk
    obtain ⟨out', h1, rfl⟩ := h
    rw [hr] at h1
    simp only [Bool.false_eq_true, if_false] at h1
    rcases (h1 []).2.1 k o hk with h | h
    · simp [aget] at h
    · exact h
  unfold evX at h
  split at h
  · split at h
    · split at h
      · split at h
        · obtain ⟨_, rfl⟩ := h; simp at hr
        · exact h.elim
      · exact h.elim
    · exact h.elim
  · split at h
    · obtain ⟨_, rfl⟩ := h; intro j ob hj; simp at hj; simp; omega
    · exact h.elim
  · subst h; intro j ob hj; simp at hj; simp; omega
  · split at h
    · obtain ⟨_, h⟩ := h
      split at h
      · subst h; intro j ob hj; simp at hj; simp; omega
      · subst h; intro j ob hj; simp at hj
    · exact h.elim
  · split at h
    · split at h
      · obtain ⟨_, _, _, rfl⟩ := h; intro j ob hj; simp at hj; simp; omega
      · split at h
        · obtain ⟨_, _, _, _, _, rfl⟩ := h; simp at hr
        · exact h.elim
      · exact h.elim
    · exact h.elim
  · split at h
    · obtain ⟨_, rfl⟩ := h; intro j ob hj; simp at hj; simp; omega
    · exact h.elim
  · exact fnev h
  · split at h
    · exact fnev h
    · exact fnev h
    · exact h.elim
  · exact h.elim

theorem evO_new {base : Nat} {st : St} {ao : AO} {out : Out} (h : evO P base st ao (· = out)) (hr : out.rd = false) : ∀ k o, (k, o) ∈ out.ob → base ≤ k ∧ k < base + out.n := by
  unfold evO at h
  split at h
  · unfold evU at h
    split at h
    · obtain ⟨_, rfl⟩ := h; intro j ob hj; simp at hj
    · exact evX_new h hr
  · split at h
    · exact h.elim
    · rename_i gc _
      split at h
      · obtain ⟨_, rfl⟩ := h; intro j ob hj; simp at hj
      · rcases h with h | h
        · unfold callG at h
          split at h
          · obtain ⟨out0, _, ⟨k2, _⟩, rfl⟩ := h; intro j ob hj; simp [k2] at hj
          · exact h.elim
        cases gc with
        | true => exact evX_new (h.1 rfl) hr
        | false => have := h.2 rfl; subst this; intro j ob hj; simp at hj

theorem flags_get : ∀ (os : List Out) (j : Nat) (o : Out), os[j]? = some o → (flags os).getD j (false, false) = (o.rd, !o.ob.isEmpty || decide (0 < o.n))
  | [], j, o, h => by simp at h
  | p :: r, 0, o, h => by simp at h; subst h; rfl
  | p :: r, j + 1, o, h => by simp only [flags, List.getD_cons_succ]; exact flags_get r j o (by simpa using h)

theorem sumN_take : ∀ (os : List Out) (j : Nat) (o : Out), os[j]? = some o → sumN (os.take (j + 1)) = sumN (os.take j) + o.n
  | [], j, o, h => by simp at h
  | p :: r, 0, o, h => by simp at h; subst h; simp [sumN]
  | p :: r, j + 1, o, h => by have := sumN_take r j o (by simpa using h); simp [sumN, this]; omega
theorem sumN_mono : ∀ (os : List Out) (i j : Nat), i ≤ j → sumN (os.take i) ≤ sumN (os.take j)
  | [], i, j, _ => by simp
  | p :: r, 0, j, _ => by simp [sumN]
  | p :: r, i + 1, 0, h => by omega
  | p :: r, i + 1, j + 1, h => by have := sumN_mono r i j (by omega); simp [sumN]; omega
theorem sumN_le (os : List Out) (j : Nat) : sumN (os.take j) ≤ sumN os := by
  rcases Nat.le_total j os.length with h | h
  · have := sumN_mono os j os.length h; rwa [List.take_length] at this
  · rw [List.take_of_length_le h]; exact Nat.le_refl _

def dOf (listed : Array Bool) : Nat → Bool := fun j => listed.getD j false

theorem dOf_set (listed : Array Bool) {i : Nat} (hi : i < listed.size) (j : Nat) : dOf (listed.setIfInBounds i true) j = if j = i then true else dOf listed j := by
  unfold dOf
  simp only [Array.getD_eq_getD_getElem?, Array.getElem?_setIfInBounds]
  by_cases e : i = j
  · subst e; simp [hi]
  · simp [e, Ne.symm e]

theorem mem_ready {listed : Array Bool} (hs : listed.size = ops.size) {i : Nat} : i ∈ Region.ready .any ops listed ↔ i < ops.size ∧ dOf listed i = false ∧ ∀ j ∈ (afterOf ops).getD i [], dOf listed j = true := by
  unfold Region.ready
  rw [List.mem_filter, List.mem_range]
  refine ⟨fun ⟨h1, h2⟩ => ⟨h1, ?_⟩, fun ⟨h1, h2, h3⟩ => ⟨h1, ?_⟩⟩
  all_goals
    have ho : ops[i]? = some ops[i] := by simp [h1]
    have hg : (afterOf ops).getD i [] = (ops[i].after.toList.filter (Region.binds .any)).map (·.on) := by
      unfold afterOf
      rw [List.getD_eq_getElem?_getD, List.getElem?_map]
      simp [h1]
  · rw [ho] at h2
    simp only [Option.map_some, Option.getD_some, Bool.and_eq_true, Bool.not_eq_true', Array.all_eq_true'] at h2
    refine ⟨?_, fun j hj => ?_⟩
    · unfold dOf
      have := h2.1
      simp only [Array.getD_eq_getD_getElem?] at this ⊢
      rw [Array.getElem?_eq_getElem (by omega)] at this ⊢
      simpa using this
    · rw [hg, List.mem_map] at hj
      obtain ⟨e, he, rfl⟩ := hj
      rw [List.mem_filter] at he
      have := h2.2 e (by simpa using he.1)
      simp only [he.2, Bool.not_true, Bool.false_or] at this
      exact this
  · rw [ho]
    simp only [Option.map_some, Option.getD_some, Bool.and_eq_true, Bool.not_eq_true', Array.all_eq_true']
    refine ⟨?_, fun e he => ?_⟩
    · unfold dOf at h2
      simp only [Array.getD_eq_getD_getElem?] at h2 ⊢
      rw [Array.getElem?_eq_getElem (by omega)] at h2 ⊢
      simpa using h2
    · by_cases hb : Region.binds .any e = true
      · have := h3 e.on (by rw [hg, List.mem_map]; exact ⟨e, by rw [List.mem_filter]; exact ⟨by simpa using he, hb⟩, rfl⟩)
        unfold dOf at this
        simp [this]
      · simp [hb]

def unl (D : Nat → Bool) : Nat → Nat
  | 0 => 0
  | n + 1 => unl D n + (if D n then 0 else 1)
theorem unl_zero {D : Nat → Bool} : ∀ {n : Nat}, unl D n = 0 → ∀ j, j < n → D j = true
  | 0, _, j, h => by omega
  | n + 1, h, j, hj => by
    simp only [unl] at h
    by_cases e : j = n
    · subst e; by_cases hd : D j = true
      · exact hd
      · simp [hd] at h
    · exact unl_zero (n := n) (by omega) j (by omega)
theorem unl_same {D D' : Nat → Bool} : ∀ {n : Nat}, (∀ j, j < n → D' j = D j) → unl D' n = unl D n
  | 0, _ => rfl
  | n + 1, h => by simp only [unl, h n (by omega), unl_same (n := n) (fun j hj => h j (by omega))]
theorem unl_set {D D' : Nat → Bool} {i : Nat} (hi : D i = false) (hi' : D' i = true) (h : ∀ j, j ≠ i → D' j = D j) : ∀ {n : Nat}, i < n → unl D' n + 1 = unl D n
  | 0, hn => by omega
  | n + 1, hn => by
    simp only [unl]
    by_cases e : i = n
    · subst e; rw [unl_same (D := D) (D' := D') (fun j hj => h j (by omega))]; simp [hi, hi']
    · have := unl_set hi hi' h (n := n) (by omega); rw [h n (Ne.symm e)]; omega
theorem unl_all {D : Nat → Bool} : ∀ {n : Nat}, (∀ j, j < n → D j = false) → unl D n = n
  | 0, _ => rfl
  | n + 1, h => by simp [unl, h n (by omega), unl_all (n := n) (fun j hj => h j (by omega))]

theorem drawn_ops {C : Ctx} (hC : C.P = P) (hd : DstOk C ops) {aos : List AO} (hres : resOs P ops ops.toList = some aos) {Q : Exit → Act → World → Prop} {base b' m : Nat} {st st' : St} {outs : List Out}
    (hch : Ch P base st aos outs b' st') (hind : indep aos (afterOf ops) (flags outs) = true) (hm : b' ≤ m) (hq : ∀ (a' : Act) (Λ' : L), Rel C Λ' st' a' → Λ'.nxt = m → Q .normal a' Λ'.w) :
    ∀ (fuel : Nat) (listed : Array Bool) (Λ : L) (a : Act), listed.size = ops.size → unl (dOf listed) ops.size ≤ fuel → (∀ i, dOf listed i = true → ∀ j ∈ (afterOf ops).getD i [], dOf listed j = true) →
      Rel C Λ (stD (dOf listed) 0 st aos outs) a → Λ.nxt = m →
      (∀ i o, outs[i]? = some o → dOf listed i = false → ∀ k, base + sumN (outs.take i) ≤ k → k < base + sumN (outs.take (i + 1)) → Free Λ k ∧ aget (stD (dOf listed) 0 st aos outs).s.sto k = none) →
      wpAny P .any ops Q fuel listed a Λ.w := by
  obtain ⟨hlen, hat⟩ := resOs_at hres
  obtain ⟨hlo, hb', hst', hev⟩ := Ch.at (i := 0) hch
  have hn : aos.length = ops.size := by rw [← hlen]; simp
  simp only [indep, Bool.and_eq_true, List.all_eq_true, decide_eq_true_eq] at hind
  obtain ⟨hlt, hpair⟩ := hind
  have hafter : ∀ i, ∀ j ∈ (afterOf ops).getD i [], j < i := by
    intro i j hj
    rw [List.getD_eq_getElem?_getD] at hj
    cases hg : (afterOf ops)[i]? with
    | none => rw [hg] at hj; simp at hj
    | some l =>
      rw [hg] at hj
      have := hlt (l, i) (by rw [List.mem_zipIdx_iff_getElem?]; simpa using hg) j (by simpa using hj)
      exact this
  -- everything is listed where nothing is ready
  have hall : ∀ (listed : Array Bool), listed.size = ops.size → Region.ready .any ops listed = [] → ∀ i, i < ops.size → dOf listed i = true := by
    intro listed hs hr i
    induction i using Nat.strongRecOn with
    | _ i ih =>
      intro hi
      cases hD : dOf listed i with
      | true => rfl
      | false =>
        exfalso
        have : i ∈ Region.ready .any ops listed := (mem_ready hs).2 ⟨hi, hD, fun j hj => ih j (hafter i j hj) (by have := hafter i j hj; omega)⟩
        rw [hr] at this; simp at this
  have hfin : ∀ (listed : Array Bool) (Λ : L) (a : Act), (∀ i, i < ops.size → dOf listed i = true) → Rel C Λ (stD (dOf listed) 0 st aos outs) a → Λ.nxt = m → Q .normal a Λ.w := by
    intro listed Λ a hl hr hx
    refine hq a Λ ?_ hx
    rw [stD_ext (D' := fun _ => true) aos outs 0 st (fun j _ hj => hl j (by omega)), ← hst'] at hr
    exact hr
  intro fuel
  induction fuel with
  | zero =>
    intro listed Λ a hs hu hcl hr hx _
    have hl := unl_zero (Nat.le_zero.1 hu)
    refine ⟨?_, hfin listed Λ a hl hr hx⟩
    cases hrd : Region.ready .any ops listed with
    | nil => rfl
    | cons i r =>
      have : i ∈ Region.ready .any ops listed := by rw [hrd]; simp
      obtain ⟨h1, h2, _⟩ := (mem_ready hs).1 this
      rw [hl i h1] at h2; cases h2
  | succ fuel ih =>
    intro listed Λ a hs hu hcl hr hx hfr
    refine ⟨fun h0 => hfin listed Λ a (hall listed hs h0) hr hx, fun i hi => ?_⟩
    obtain ⟨hi1, hi2, hi3⟩ := (mem_ready hs).1 hi
    have hanc := befores_ok hcl (afterOf ops) [] [] rfl rfl (fun i _ j hj => by simp at hj)
    have hia : i < aos.length := by omega
    have hio : i < outs.length := by omega
    have hao : aos[i]? = some aos[i] := by simp [hia]
    have hou : outs[i]? = some outs[i] := by simp [hio]
    have ho : ops[i]? = some ops[i] := by simp [hi1]
    have hro := hat i ops[i] aos[i] (by simp) hao
    -- pairs that are not ordered
    have hord : ∀ j ao o, aos[j]? = some ao → outs[j]? = some o → j ≠ i → (decide (j < i) = dOf listed j) ∨
        (ao.clash aos[i] = false ∧ aos[i].clash ao = false ∧ (outs[i].rd && (!o.ob.isEmpty || decide (0 < o.n))) = false ∧ (o.rd && (!outs[i].ob.isEmpty || decide (0 < outs[i].n))) = false) := by
      intro j ao o hj ho' hne
      have hjl := (List.getElem?_eq_some_iff.1 hj).1
      have e1 : aos.getD j ⟨none, none, .cst .top⟩ = ao := by rw [List.getD_eq_getElem?_getD, hj]; rfl
      have e2 : aos.getD i ⟨none, none, .cst .top⟩ = aos[i] := by rw [List.getD_eq_getElem?_getD, hao]; rfl
      have clash_symm : ∀ x y : AO, x.clash y = false → y.clash x = false := by
        intro x y h
        unfold AO.clash at h ⊢
        simp only [Bool.or_eq_false_iff] at h ⊢
        exact ⟨⟨h.1.2, h.1.1⟩, ⟨h.2.2, h.2.1⟩⟩
      rcases Nat.lt_or_gt_of_ne hne with hlt | hlt
      · have hp := hpair i (List.mem_range.2 hia) j (List.mem_range.2 hlt)
        unfold pairOk at hp
        rw [flags_get outs j o ho', flags_get outs i outs[i] hou, e1, e2] at hp
        simp only [Bool.or_eq_true, Bool.and_eq_true, Bool.not_eq_true'] at hp
        rcases hp with hp | ⟨⟨h1, h2⟩, h3⟩
        · left
          rw [hanc i hi3 j hp]; simpa using hlt
        · right
          exact ⟨h1, clash_symm _ _ h1, h3, h2⟩
      · have hp := hpair j (List.mem_range.2 hjl) i (List.mem_range.2 hlt)
        unfold pairOk at hp
        rw [flags_get outs j o ho', flags_get outs i outs[i] hou, e1, e2] at hp
        simp only [Bool.or_eq_true, Bool.and_eq_true, Bool.not_eq_true'] at hp
        rcases hp with hp | ⟨⟨h1, h2⟩, h3⟩
        · left
          cases hD : dOf listed j with
          | false => simp; omega
          | true =>
            have := hanc j (hcl j hD) i hp
            rw [this] at hi2; cases hi2
        · right
          exact ⟨clash_symm _ _ h1, h1, h2, h3⟩
    have hself : decide (i < i) = dOf listed i := by rw [hi2]; simp
    have hidx : ∀ j : Nat, ∃ o : Out, ∀ ao : AO, aos[j]? = some ao → outs[j]? = some o := by
      intro j
      by_cases hj : j < outs.length
      · exact ⟨outs[j], fun _ _ => by simp [hj]⟩
      · exact ⟨outs[i], fun ao h => by have := (List.getElem?_eq_some_iff.1 h).1; omega⟩
    -- the operation at the state of the listed ones
    have hevi := hev i aos[i] outs[i] hao hou
    simp only [Nat.zero_add] at hevi
    have hevD : evO P (base + sumN (outs.take i)) (stD (dOf listed) 0 st aos outs) aos[i] (· = outs[i]) := by
      refine evO_congr (fun t ht => stD_look aos outs 0 st st (fun j ao hj hdst => ?_) rfl) ?_ hevi
      · simp only [Nat.zero_add]
        by_cases e : j = i
        · subst e; exact hself
        · obtain ⟨o, hoo⟩ := hidx j
          rcases hord j ao o hj (hoo ao hj) e with h | ⟨h, _⟩
          · exact h
          · unfold AO.clash at h
            simp only [Bool.or_eq_false_iff] at h
            have := h.1.1
            unfold AO.hits at this
            simp only [hdst, List.contains_eq_mem, decide_eq_false_iff_not] at this
            exact (this ht).elim
      · by_cases hrd : outs[i].rd = true
        · refine .inr (stD_sto aos outs 0 st st (fun j o hj hob => ?_) rfl)
          simp only [Nat.zero_add]
          by_cases e : j = i
          · subst e; exact hself
          · have hjl : j < aos.length := by rw [hlo]; exact (List.getElem?_eq_some_iff.1 hj).1
            rcases hord j aos[j] o (by simp [hjl]) hj e with h | ⟨_, _, h, _⟩
            · exact h
            · simp [hrd, hob] at h
        · exact .inl (by simpa using hrd)
    have hdst : aos[i].dst = ops[i].dst := by
      have := hro
      unfold resO at this
      split at this
      · cases this
      · split at this
        · simp only [Option.some.injEq] at this; rw [← this]
        · split at this
          · simp only [Option.some.injEq] at this; rw [← this]
          · cases this
    have hsucc := sumN_take outs i outs[i] hou
    have hle1 := sumN_le outs (i + 1)
    refine (evO_sound ho hro hevD hC hr hd (by omega) (fun k k1 k2 => ?_) fun v Λ' k1 k2 k3 k4 k5 => ?_).2
    · obtain ⟨f1, f2⟩ := hfr i outs[i] hou hi2 k k1 (by omega)
      exact ⟨by omega, f1, f2⟩
    · have hr1 : Rel C Λ' ((stD (dOf listed) 0 st aos outs).app aos[i].dst outs[i]) (a.put aos[i].dst v) := hr.step k1 (fun x hx => hd i _ x ho (by rw [← hdst]; exact hx)) k4 k3
      have hset := dOf_set listed (i := i) (by omega)
      have heq : Eqv (stD (dOf (listed.setIfInBounds i true)) 0 st aos outs) ((stD (dOf listed) 0 st aos outs).app aos[i].dst outs[i]) := by
        refine stD_insert (n := i) aos outs 0 st hao hou (by simpa using hi2) (by simp [hset]) (fun j hj => by rw [hset]; simp at hj; simp [hj]) (fun j bo p hb hp hlt hD => ?_)
        simp only [Nat.zero_add] at hD
        rcases hord j bo p hb hp (by omega) with h | ⟨h1, h2, h3, h4⟩
        · rw [hD] at h; simp at h; omega
        · refine ⟨fun x hx hbx => ?_, fun k x y hx hy => ?_⟩
          · unfold AO.clash at h2
            simp only [Bool.or_eq_false_iff] at h2
            have := h2.2.1
            unfold AO.same at this
            simp [hx, hbx] at this
          · have hob : outs[i].ob.isEmpty = false := by cases hh : outs[i].ob with | nil => rw [hh] at hx; simp at hx | cons _ _ => rfl
            have hpb : p.ob.isEmpty = false := by cases hh : p.ob with | nil => rw [hh] at hy; simp at hy | cons _ _ => rfl
            simp only [hpb, Bool.not_false, Bool.true_or, Bool.and_true] at h3
            simp only [hob, Bool.not_false, Bool.true_or, Bool.and_true] at h4
            have n1 := evO_new hevi h3 k x hx
            have n2 := evO_new (hev j bo p hb hp) h4 k y hy
            have := sumN_mono outs (i + 1) j (by omega)
            omega
      have hr2 := hr1.eqv heq.symm
      rw [← hdst]
      have hnm := evO_names hevD
      refine ih (listed.setIfInBounds i true) Λ' _ (by simpa using hs) ?_ (fun j hj l hl => ?_) hr2 (by omega) (fun j o hj hD k h1 h2 => ?_)
      · have := unl_set (D := dOf listed) (D' := dOf (listed.setIfInBounds i true)) (i := i) hi2 (by simp [hset]) (fun j hj => by simp [hset, hj]) hi1
        omega
      · rw [hset] at hj ⊢
        split
        · rfl
        · by_cases e : j = i
          · subst e; exact hi3 l hl
          · simp only [e, if_false] at hj; exact hcl j hj l hl
      · rw [hset] at hD
        have hne : j ≠ i := by rintro rfl; simp at hD
        simp only [hne, if_false] at hD
        obtain ⟨f1, f2⟩ := hfr j o hj hD k h1 h2
        have hout : k < base + sumN (outs.take i) ∨ base + sumN (outs.take i) + outs[i].n ≤ k := by
          rcases Nat.lt_or_gt_of_ne hne with h | h
          · have := sumN_mono outs (j + 1) i (by omega); left; omega
          · have := sumN_mono outs (i + 1) j (by omega); right; omega
        have hout' : base + sumN (outs.take i) + outs[i].n ≤ k ∨ (k < base + sumN (outs.take i) ∧ outs[i].rd = false) := by
          rcases hout with h | h
          · right
            refine ⟨h, ?_⟩
            have hon : 0 < o.n := by have := sumN_take outs j o hj; omega
            have hjl : j < aos.length := by rw [hlo]; exact (List.getElem?_eq_some_iff.1 hj).1
            rcases hord j aos[j] o (by simp [hjl]) hj hne with e | ⟨_, _, e, _⟩
            · rw [hD] at e
              simp at e
              have := sumN_mono outs (i + 1) j (by omega)
              omega
            · simpa [hon] using e
          · exact .inl h
        exact ⟨k5 k f1 f2 hout', by rw [heq.sto]; exact free_after hnm f2 hout _⟩

end
end Go.GB
