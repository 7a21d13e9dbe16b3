/-
  YtpakhiccblfcmaaP3: lemmas of this proof (part 3). No conditions.
-/
import Derived.Test.YtpakhiccblfcmaaP2
import Derived.LoopN
import Derived.Scope

/-
  GbT: regions whose order is drawn: the proof.
-/
namespace Go.GB
section
variable {P : Program} {ops : Array Oper}

theorem foldl_bit (f : Nat → Nat) (x : Nat) : ∀ (l : List Nat) (s : Nat), (l.foldl (fun s j => s ||| f j) s).testBit x = (s.testBit x || l.any fun j => (f j).testBit x)
  | [], s => by simp
  | j :: r, s => by simp only [List.foldl_cons, List.any_cons]; rw [foldl_bit f x r]; simp [Nat.testBit_or, Bool.or_assoc]

theorem befores_ok {D : Nat → Bool} {after : List (List Nat)} (hcl : ∀ i, D i = true → ∀ j ∈ after.getD i [], D j = true) : ∀ (suf pre : List (List Nat)) (acc : List Nat), after = pre ++ suf → acc.length = pre.length →
    (∀ i, (∀ j ∈ after.getD i [], D j = true) → ∀ j, (acc.getD i 0).testBit j = true → D j = true) → ∀ i, (∀ j ∈ after.getD i [], D j = true) → ∀ j, ((befores suf acc).getD i 0).testBit j = true → D j = true
  | [], pre, acc, _, _, h => h
  | l :: suf, pre, acc, e, hl, h => by
    refine befores_ok hcl suf (pre ++ [l]) _ (by simp [e]) (by simp [hl]) fun i hi j hj => ?_
    by_cases h1 : i < acc.length
    · rw [List.getD_eq_getElem?_getD, List.getElem?_append_left h1, ← List.getD_eq_getElem?_getD] at hj
      exact h i hi j hj
    · by_cases h2 : i = acc.length
      · subst h2
        rw [List.getD_eq_getElem?_getD, List.getElem?_append_right (Nat.le_refl _)] at hj
        simp only [Nat.sub_self, List.getElem?_cons_zero, Option.getD_some] at hj
        rw [foldl_bit (fun j => 2 ^ j ||| acc.getD j 0)] at hj
        simp only [Nat.zero_testBit, Bool.false_or, List.any_eq_true] at hj
        obtain ⟨q, hq, hb⟩ := hj
        have hlq : after.getD acc.length [] = l := by rw [e, hl, List.getD_eq_getElem?_getD]; simp
        rw [hlq] at hi
        have hDq := hi q hq
        simp only [Nat.testBit_or, Bool.or_eq_true, Nat.testBit_two_pow, decide_eq_true_eq] at hb
        rcases hb with rfl | hb
        · exact hDq
        · exact h q (hcl q hDq) j hb
      · rw [List.getD_eq_getElem?_getD, List.getElem?_eq_none (by simp; omega)] at hj
        simp at hj

theorem evXN_rd {st : St} {op : NOp} {out : Out} (h : evXN st (· = out) op) : out.rd = true := by
  unfold evXN at h
  split at h
  · split at h
    · split at h
      · obtain ⟨_, rfl⟩ := h; rfl
      · exact h.elim
    · exact h.elim
  · split at h
    · split at h
      · obtain ⟨_, rfl⟩ := h; rfl
      · exact h.elim
    · exact h.elim
  · split at h
    · split at h
      · subst h; rfl
      · exact h.elim
    · exact h.elim
  · split at h
    · split at h
      · split at h
        · split at h
          · obtain ⟨_, rfl⟩ := h; rfl
          · exact h.elim
        · obtain ⟨_, rfl⟩ := h; rfl
      · exact h.elim
    · exact h.elim
  · split at h
    · split at h
      · split at h
        · subst h; rfl
        · exact h.elim
      · exact h.elim
    · exact h.elim
  · exact h.elim

theorem evX_new {base : Nat} {st : St} {aop : AOp} {out : Out} (h : evX P base st (· = out) aop) (hr : out.rd = false) : ∀ k o, (k, o) ∈ out.ob → base ≤ k ∧ k < base + out.n := by
  have fnev : ∀ {f : FuncId} {vs : List V} {sto : List (Nat × AObj)}, FnEv P f vs base sto (· = out) → ∀ k o, (k, o) ∈ out.ob → base ≤ k ∧ k < base + out.n := by
    intro f vs sto h k o hk
    obtain ⟨out', h1, rfl⟩ := h
    rw [hr] at h1
    simp only [Bool.false_eq_true, if_false] at h1
    rcases (h1 []).2.1 k o hk with h | h
    · simp [aget] at h
    · exact h
  unfold evX at h
  split at h
  · split at h
    · split at h
      · split at h
        · obtain ⟨_, rfl⟩ := h; simp at hr
        · exact h.elim
      · exact h.elim
    · exact h.elim
  · split at h
    · obtain ⟨_, rfl⟩ := h; intro j ob hj; simp at hj; simp; omega
    · exact h.elim
  · subst h; intro j ob hj; simp at hj; simp; omega
  · split at h
    · obtain ⟨_, h⟩ := h
      split at h
      · rcases h with h | h
        · split at h
          · subst h; intro j ob hj; simp at hj
          · subst h; intro j ob hj; simp at hj; simp; omega
        · subst h; intro j ob hj; simp at hj
      · subst h; intro j ob hj; simp at hj
    · exact h.elim
  · split at h
    · split at h
      · obtain ⟨_, _, _, rfl⟩ := h; intro j ob hj; simp at hj; simp; omega
      · split at h
        · obtain ⟨_, _, _, _, _, rfl⟩ := h; simp at hr
        · exact h.elim
      · exact h.elim
    · exact h.elim
  · split at h
    · obtain ⟨_, rfl⟩ := h; intro j ob hj; simp at hj; simp; omega
    · exact h.elim
  · exact fnev h
  · split at h
    · exact fnev h
    · exact fnev h
    · exact h.elim
  · subst h; intro j ob hj; simp at hj; simp; omega
  · split at h
    · split at h
      · subst h; simp at hr
      · exact h.elim
    · exact h.elim
  · split at h
    · subst h; simp at hr
    · split at h
      · subst h; simp at hr
      · exact h.elim
    · exact h.elim
  · rename_i op
    exact absurd hr (by rw [evXN_rd h]; simp)
  · exact h.elim

theorem evXY_new {base : Nat} {st : St} {aop : AOp} {out : Out} (h : evX P base st (· = out) aop ∨ evY base st (· = out) aop) (hr : out.rd = false) : ∀ k o, (k, o) ∈ out.ob → base ≤ k ∧ k < base + out.n := by
  rcases h with h | ⟨o', h, rfl⟩
  · exact evX_new h hr
  · cases h with
    | bslO _ => intro j ob hj; simp at hj; simp; omega
    | _ => simp at hr

theorem evO_new {base : Nat} {st : St} {ao : AO} {out : Out} (h : evO P base st ao (· = out)) (hr : out.rd = false) : ∀ k o, (k, o) ∈ out.ob → base ≤ k ∧ k < base + out.n := by
  unfold evO at h
  split at h
  · unfold evU at h
    split at h
    · obtain ⟨_, rfl⟩ := h; intro j ob hj; simp at hj
    · exact evXY_new h hr
  · split at h
    · exact h.elim
    · rename_i gc _
      split at h
      · obtain ⟨_, rfl⟩ := h; intro j ob hj; simp at hj
      · rcases h with h | h
        · unfold callG at h
          split at h
          · obtain ⟨out0, _, ⟨k2, _⟩, rfl⟩ := h; intro j ob hj; simp [k2] at hj
          · exact h.elim
        cases gc with
        | true => exact evXY_new (h.1 rfl) hr
        | false => have := h.2 rfl; subst this; intro j ob hj; simp at hj

theorem flags_get : ∀ (os : List Out) (j : Nat) (o : Out), os[j]? = some o → (flags os).getD j (false, false) = (o.rd, !o.ob.isEmpty || decide (0 < o.n))
  | [], j, o, h => by simp at h
  | p :: r, 0, o, h => by simp at h; subst h; rfl
  | p :: r, j + 1, o, h => by simp only [flags, List.getD_cons_succ]; exact flags_get r j o (by simpa using h)

theorem sumN_take : ∀ (os : List Out) (j : Nat) (o : Out), os[j]? = some o → sumN (os.take (j + 1)) = sumN (os.take j) + o.n
  | [], j, o, h => by simp at h
  | p :: r, 0, o, h => by simp at h; subst h; simp [sumN]
  | p :: r, j + 1, o, h => by have := sumN_take r j o (by simpa using h); simp [sumN, this]; omega
theorem sumN_mono : ∀ (os : List Out) (i j : Nat), i ≤ j → sumN (os.take i) ≤ sumN (os.take j)
  | [], i, j, _ => by simp
  | p :: r, 0, j, _ => by simp [sumN]
  | p :: r, i + 1, 0, h => by omega
  | p :: r, i + 1, j + 1, h => by have := sumN_mono r i j (by omega); simp [sumN]; omega
theorem sumN_le (os : List Out) (j : Nat) : sumN (os.take j) ≤ sumN os := by
  rcases Nat.le_total j os.length with h | h
  · have := sumN_mono os j os.length h; rwa [List.take_length] at this
  · rw [List.take_of_length_le h]; exact Nat.le_refl _

def dOf (listed : Array Bool) : Nat → Bool := fun j => listed.getD j false

theorem dOf_set (listed : Array Bool) {i : Nat} (hi : i < listed.size) (j : Nat) : dOf (listed.setIfInBounds i true) j = if j = i then true else dOf listed j := by
  unfold dOf
  simp only [Array.getD_eq_getD_getElem?, Array.getElem?_setIfInBounds]
  by_cases e : i = j
  · subst e; simp [hi]
  · simp [e, Ne.symm e]

theorem mem_ready {listed : Array Bool} (hs : listed.size = ops.size) {i : Nat} : i ∈ Region.ready .any ops listed ↔ i < ops.size ∧ dOf listed i = false ∧ ∀ j ∈ (afterOf ops).getD i [], dOf listed j = true := by
  unfold Region.ready
  rw [List.mem_filter, List.mem_range]
  refine ⟨fun ⟨h1, h2⟩ => ⟨h1, ?_⟩, fun ⟨h1, h2, h3⟩ => ⟨h1, ?_⟩⟩
  all_goals
    have ho : ops[i]? = some ops[i] := by simp [h1]
    have hg : (afterOf ops).getD i [] = (ops[i].after.toList.filter (Region.binds .any)).map (·.on) := by
      unfold afterOf
      rw [List.getD_eq_getElem?_getD, List.getElem?_map]
      simp [h1]
  · rw [ho] at h2
    simp only [Option.map_some, Option.getD_some, Bool.and_eq_true, Bool.not_eq_true', Array.all_eq_true'] at h2
    refine ⟨?_, fun j hj => ?_⟩
    · unfold dOf
      have := h2.1
      simp only [Array.getD_eq_getD_getElem?] at this ⊢
      rw [Array.getElem?_eq_getElem (by omega)] at this ⊢
      simpa using this
    · rw [hg, List.mem_map] at hj
      obtain ⟨e, he, rfl⟩ := hj
      rw [List.mem_filter] at he
      have := h2.2 e (by simpa using he.1)
      simp only [he.2, Bool.not_true, Bool.false_or] at this
      exact this
  · rw [ho]
    simp only [Option.map_some, Option.getD_some, Bool.and_eq_true, Bool.not_eq_true', Array.all_eq_true']
    refine ⟨?_, fun e he => ?_⟩
    · unfold dOf at h2
      simp only [Array.getD_eq_getD_getElem?] at h2 ⊢
      rw [Array.getElem?_eq_getElem (by omega)] at h2 ⊢
      simpa using h2
    · by_cases hb : Region.binds .any e = true
      · have := h3 e.on (by rw [hg, List.mem_map]; exact ⟨e, by rw [List.mem_filter]; exact ⟨by simpa using he, hb⟩, rfl⟩)
        unfold dOf at this
        simp [this]
      · simp [hb]

def unl (D : Nat → Bool) : Nat → Nat
  | 0 => 0
  | n + 1 => unl D n + (if D n then 0 else 1)
theorem unl_zero {D : Nat → Bool} : ∀ {n : Nat}, unl D n = 0 → ∀ j, j < n → D j = true
  | 0, _, j, h => by omega
  | n + 1, h, j, hj => by
    simp only [unl] at h
    by_cases e : j = n
    · subst e; by_cases hd : D j = true
      · exact hd
      · simp [hd] at h
    · exact unl_zero (n := n) (by omega) j (by omega)
theorem unl_same {D D' : Nat → Bool} : ∀ {n : Nat}, (∀ j, j < n → D' j = D j) → unl D' n = unl D n
  | 0, _ => rfl
  | n + 1, h => by simp only [unl, h n (by omega), unl_same (n := n) (fun j hj => h j (by omega))]
theorem unl_set {D D' : Nat → Bool} {i : Nat} (hi : D i = false) (hi' : D' i = true) (h : ∀ j, j ≠ i → D' j = D j) : ∀ {n : Nat}, i < n → unl D' n + 1 = unl D n
  | 0, hn => by omega
  | n + 1, hn => by
    simp only [unl]
    by_cases e : i = n
    · subst e; rw [unl_same (D := D) (D' := D') (fun j hj => h j (by omega))]; simp [hi, hi']
    · have := unl_set hi hi' h (n := n) (by omega); rw [h n (Ne.symm e)]; omega
theorem unl_all {D : Nat → Bool} : ∀ {n : Nat}, (∀ j, j < n → D j = false) → unl D n = n
  | 0, _ => rfl
  | n + 1, h => by simp [unl, h n (by omega), unl_all (n := n) (fun j hj => h j (by omega))]

theorem drawn_ops {C : Ctx} (hC : C.P = P) (hd : DstOk C ops) {aos : List AO} (hres : resOs P ops ops.toList = some aos) {Q : Exit → Act → World → Prop} {base b' m : Nat} {st st' : St} {outs : List Out}
    (hch : Ch P base st aos outs b' st') (hind : indep aos (afterOf ops) (flags outs) st'.env = true) (hm : b' ≤ m) (hno : ∀ k, base ≤ k → k < b' → aget st.s.sto k = none) (hq : ∀ (a' : Act) (Λ' : L), Rel C Λ' st' a' → Λ'.nxt = m → Q .normal a' Λ'.w) :
    ∀ (fuel : Nat) (listed : Array Bool) (Λ : L) (a : Act), listed.size = ops.size → unl (dOf listed) ops.size ≤ fuel → (∀ i, dOf listed i = true → ∀ j ∈ (afterOf ops).getD i [], dOf listed j = true) →
      Rel C Λ (stD (dOf listed) 0 st aos outs) a → Λ.nxt = m →
      (∀ i o, outs[i]? = some o → dOf listed i = false → ∀ k, base + sumN (outs.take i) ≤ k → k < base + sumN (outs.take (i + 1)) → Free Λ k ∧ aget (stD (dOf listed) 0 st aos outs).s.sto k = none) →
      wpAny P .any ops Q fuel listed a Λ.w := by
  obtain ⟨hlen, hat⟩ := resOs_at hres
  obtain ⟨hlo, hb', hst', hev⟩ := Ch.at (i := 0) hch
  have hn : aos.length = ops.size := by rw [← hlen]; simp
  simp only [indep, Bool.and_eq_true, List.all_eq_true, decide_eq_true_eq] at hind
  obtain ⟨hlt, hpair⟩ := hind
  have hafter : ∀ i, ∀ j ∈ (afterOf ops).getD i [], j < i := by
    intro i j hj
    rw [List.getD_eq_getElem?_getD] at hj
    cases hg : (afterOf ops)[i]? with
    | none => rw [hg] at hj; simp at hj
    | some l =>
      rw [hg] at hj
      have := hlt (l, i) (by rw [List.mem_zipIdx_iff_getElem?]; simpa using hg) j (by simpa using hj)
      exact this
  -- the names that are set at each operation in the order of the text
  have hpre : ∀ (i : Nat), i ≤ outs.length → ∀ k, aget (stD (fun l => decide (l < i)) 0 st aos outs).s.sto k ≠ none → aget st.s.sto k ≠ none ∨ k < base + sumN (outs.take i) := by
    intro i
    induction i using Nat.strongRecOn with
    | _ i ih =>
      intro hi k hk
      rcases stD_back aos outs 0 st hk with h | ⟨j, o, h1, h2, h3, x, h4⟩
      · exact .inl h
      · simp only [Nat.zero_add, decide_eq_true_eq] at h3
        have hoj := hev j aos[j] o (by simp [h2]) h1
        simp only [Nat.zero_add] at hoj
        rcases evO_names hoj k x h4 with h | ⟨_, h⟩
        · rcases ih j h3 (by omega) k h with h | h
          · exact .inl h
          · right; have := sumN_mono outs j i (by omega); omega
        · right; have := sumN_take outs j o h1; have := sumN_mono outs (j + 1) i (by omega); omega
  -- everything is listed where nothing is ready
  have hall : ∀ (listed : Array Bool), listed.size = ops.size → Region.ready .any ops listed = [] → ∀ i, i < ops.size → dOf listed i = true := by
    intro listed hs hr i
    induction i using Nat.strongRecOn with
    | _ i ih =>
      intro hi
      cases hD : dOf listed i with
      | true => rfl
      | false =>
        exfalso
        have : i ∈ Region.ready .any ops listed := (mem_ready hs).2 ⟨hi, hD, fun j hj => ih j (hafter i j hj) (by have := hafter i j hj; omega)⟩
        rw [hr] at this; simp at this
  have hfin : ∀ (listed : Array Bool) (Λ : L) (a : Act), (∀ i, i < ops.size → dOf listed i = true) → Rel C Λ (stD (dOf listed) 0 st aos outs) a → Λ.nxt = m → Q .normal a Λ.w := by
    intro listed Λ a hl hr hx
    refine hq a Λ ?_ hx
    rw [stD_ext (D' := fun _ => true) aos outs 0 st (fun j _ hj => hl j (by omega)), ← hst'] at hr
    exact hr
  intro fuel
  induction fuel with
  | zero =>
    intro listed Λ a hs hu hcl hr hx _
    have hl := unl_zero (Nat.le_zero.1 hu)
    refine ⟨?_, hfin listed Λ a hl hr hx⟩
    cases hrd : Region.ready .any ops listed with
    | nil => rfl
    | cons i r =>
      have : i ∈ Region.ready .any ops listed := by rw [hrd]; simp
      obtain ⟨h1, h2, _⟩ := (mem_ready hs).1 this
      rw [hl i h1] at h2; cases h2
  | succ fuel ih =>
    intro listed Λ a hs hu hcl hr hx hfr
    refine ⟨fun h0 => hfin listed Λ a (hall listed hs h0) hr hx, fun i hi => ?_⟩
    obtain ⟨hi1, hi2, hi3⟩ := (mem_ready hs).1 hi
    have hanc := befores_ok hcl (afterOf ops) [] [] rfl rfl (fun i _ j hj => by simp at hj)
    have hia : i < aos.length := by omega
    have hio : i < outs.length := by omega
    have hao : aos[i]? = some aos[i] := by simp [hia]
    have hou : outs[i]? = some outs[i] := by simp [hio]
    have ho : ops[i]? = some ops[i] := by simp [hi1]
    have hro := hat i ops[i] aos[i] (by simp) hao
    -- pairs that are not ordered
    have hord : ∀ j ao o, aos[j]? = some ao → outs[j]? = some o → j ≠ i → (decide (j < i) = dOf listed j) ∨
        (ao.clash aos[i] = false ∧ aos[i].clash ao = false ∧ (outs[i].rd && (!o.ob.isEmpty || decide (0 < o.n)) && !(aos[i].near && !o.rd) && !(offs aos st'.env i j)) = false ∧ (o.rd && (!outs[i].ob.isEmpty || decide (0 < outs[i].n)) && !(ao.near && !outs[i].rd) && !(offs aos st'.env j i)) = false) := by
      intro j ao o hj ho' hne
      have hjl := (List.getElem?_eq_some_iff.1 hj).1
      have e1 : aos.getD j ⟨none, none, .cst .top⟩ = ao := by rw [List.getD_eq_getElem?_getD, hj]; rfl
      have e2 : aos.getD i ⟨none, none, .cst .top⟩ = aos[i] := by rw [List.getD_eq_getElem?_getD, hao]; rfl
      have clash_symm : ∀ x y : AO, x.clash y = false → y.clash x = false := by
        intro x y h
        unfold AO.clash at h ⊢
        simp only [Bool.or_eq_false_iff] at h ⊢
        exact ⟨⟨h.1.2, h.1.1⟩, ⟨h.2.2, h.2.1⟩⟩
      rcases Nat.lt_or_gt_of_ne hne with hlt | hlt
      · have hp := hpair i (List.mem_range.2 hia) j (List.mem_range.2 hlt)
        unfold pairOk at hp
        rw [flags_get outs j o ho', flags_get outs i outs[i] hou, e1, e2] at hp
        simp only [Bool.or_eq_true, Bool.and_eq_true, Bool.not_eq_true'] at hp
        rcases hp with hp | ⟨⟨h1, h2⟩, h3⟩
        · left
          rw [hanc i hi3 j hp]; simpa using hlt
        · right
          exact ⟨h1, clash_symm _ _ h1, h3, h2⟩
      · have hp := hpair j (List.mem_range.2 hjl) i (List.mem_range.2 hlt)
        unfold pairOk at hp
        rw [flags_get outs j o ho', flags_get outs i outs[i] hou, e1, e2] at hp
        simp only [Bool.or_eq_true, Bool.and_eq_true, Bool.not_eq_true'] at hp
        rcases hp with hp | ⟨⟨h1, h2⟩, h3⟩
        · left
          cases hD : dOf listed j with
          | false => simp; omega
          | true =>
            have := hanc j (hcl j hD) i hp
            rw [this] at hi2; cases hi2
        · right
          exact ⟨clash_symm _ _ h1, h1, h2, h3⟩
    have hoffs : ∀ a b : Nat, ∀ ha : a < aos.length, aos[a].near = false → offs aos st'.env a b = false := by
      intro a b ha hn
      cases ho : offs aos st'.env a b with
      | false => rfl
      | true =>
        obtain ⟨k1, q1, g1, _, _⟩ := offs_inv ho
        have e1 : aos.getD a ⟨none, none, .cst .top⟩ = aos[a] := by rw [List.getD_eq_getElem?_getD]; simp [ha]
        rw [e1] at g1
        rw [(nearAt_ok g1).1] at hn; cases hn
    have hend : ∀ (a t : Nat), a ≤ aos.length → (∀ o ∈ aos.drop a, o.dst ≠ some t) → look (stD (fun l => decide (l < a)) 0 st aos outs).env t = look st'.env t := by
      intro a t ha hw
      rw [hst']
      refine stD_look aos outs 0 st st (fun j ao hj hdst => ?_) rfl
      simp only [Nat.zero_add, decide_eq_true_eq]
      apply Classical.byContradiction
      intro hlt
      refine hw ao ?_ hdst
      rw [List.mem_iff_getElem?]
      refine ⟨j - a, ?_⟩
      rw [List.getElem?_drop]
      have : a + (j - a) = j := by omega
      rw [this]; exact hj
    have hself : decide (i < i) = dOf listed i := by rw [hi2]; simp
    have hidx : ∀ j : Nat, ∃ o : Out, ∀ ao : AO, aos[j]? = some ao → outs[j]? = some o := by
      intro j
      by_cases hj : j < outs.length
      · exact ⟨outs[j], fun _ _ => by simp [hj]⟩
      · exact ⟨outs[i], fun ao h => by have := (List.getElem?_eq_some_iff.1 h).1; omega⟩
    -- the operation at the state of the listed ones
    have hevi := hev i aos[i] outs[i] hao hou
    simp only [Nat.zero_add] at hevi
    have hlk : ∀ t ∈ aos[i].reads, look (stD (fun l => decide (l < i)) 0 st aos outs).env t = look (stD (dOf listed) 0 st aos outs).env t := by
      intro t ht
      refine stD_look aos outs 0 st st (fun j ao hj hdst => ?_) rfl
      simp only [Nat.zero_add]
      by_cases e : j = i
      · subst e; exact hself
      · obtain ⟨o, hoo⟩ := hidx j
        rcases hord j ao o hj (hoo ao hj) e with h | ⟨h, _⟩
        · exact h
        · unfold AO.clash at h
          simp only [Bool.or_eq_false_iff] at h
          have := h.1.1
          unfold AO.hits at this
          simp only [hdst, List.contains_eq_mem, decide_eq_false_iff_not] at this
          exact (this ht).elim
    have hevD : evO P (base + sumN (outs.take i)) (stD (dOf listed) 0 st aos outs) aos[i] (· = outs[i]) := by
      by_cases hrd : outs[i].rd = true
      · cases hnear : aos[i].near with
        | false =>
          refine evO_congr hlk (.inr (stD_sto aos outs 0 st st (fun j o hj hob => ?_) rfl)) hevi
          simp only [Nat.zero_add]
          by_cases e : j = i
          · subst e; exact hself
          · have hjl : j < aos.length := by rw [hlo]; exact (List.getElem?_eq_some_iff.1 hj).1
            rcases hord j aos[j] o (by simp [hjl]) hj e with h | ⟨_, _, h, _⟩
            · exact h
            · have hof := hoffs i j hia hnear
              simp [hrd, hob, hnear, hof] at h
        | true =>
          refine near_congr hnear hlk hevi fun t ht k hnm hsome => ?_
          refine stD_sto1 aos outs 0 st st (fun j o hj hob => ?_) rfl
          simp only [Nat.zero_add]
          by_cases e : j = i
          · subst e; exact hself
          · have hjl : j < aos.length := by rw [hlo]; exact (List.getElem?_eq_some_iff.1 hj).1
            rcases hord j aos[j] o (by simp [hjl]) hj e with h | ⟨_, _, h, _⟩
            · exact h
            · obtain ⟨x, hx⟩ := hob
              have hne : o.ob.isEmpty = false := by cases hh : o.ob with | nil => rw [hh] at hx; simp at hx | cons _ _ => rfl
              cases hof : offs aos st'.env i j with
              | true =>
                exfalso
                obtain ⟨k1, q1, g1, g2, hne1⟩ := offs_inv hof
                have e1 : aos.getD i ⟨none, none, .cst .top⟩ = aos[i] := by rw [List.getD_eq_getElem?_getD, hao]; rfl
                have e2 : aos.getD j ⟨none, none, .cst .top⟩ = aos[j] := by rw [List.getD_eq_getElem?_getD]; simp [hjl]
                rw [e1] at g1; rw [e2] at g2
                obtain ⟨_, a1⟩ := nearAt_ok g1
                obtain ⟨a2, a3⟩ := a1 t ht
                have hk1 : k = k1 := by
                  obtain ⟨ps, _, hnm⟩ := hnm
                  rw [hend i t (by omega) a2] at hnm
                  exact a3 k ps hnm
                have hoj := hev j aos[j] o (by simp [hjl]) hj
                simp only [Nat.zero_add] at hoj
                have hk2 : k = q1 := by
                  rcases storeAt_ok (P := P) g2 with ⟨t2, b1, b2⟩ | ⟨d, b0, b1, b2⟩
                  · exact b2 _ _ _ (hend j t2 (by omega) b1) hoj k x hx
                  · refine b2 _ _ _ ?_ hoj k x hx
                    rw [← hend (j + 1) d (by omega) (by rw [← List.tail_drop]; exact b1)]
                    have hjo : j < outs.length := (List.getElem?_eq_some_iff.1 hj).1
                    have hs := stD_upto aos outs 0 st j aos[j] o (by simp [hjl]) hj
                    simp only [Nat.zero_add] at hs
                    rw [hs]
                    simp only [St.app, b0, look_aset, if_true]
                exact hne1 (hk1.symm.trans hk2)
              | false =>
                have hord' : o.rd = false := by simpa [hrd, hne, hnear, hof] using h
                have hoj := hev j aos[j] o (by simp [hjl]) hj
                have n1 := evO_new hoj hord' k x hx
                have n2 := sumN_take outs j o hj
                cases hD : dOf listed j with
                | false =>
                  exfalso
                  have hf := (hfr j o hj hD k n1.1 (by omega)).1
                  have hv := hr.env t
                  rw [← hlk t ht] at hv
                  exact V.names_live hv hnm hf
                | true =>
                  simp only [decide_eq_true_eq]
                  rcases Nat.lt_or_gt_of_ne e with h | h
                  · exact h
                  · exfalso
                    have m1 := sumN_mono outs i j (by omega)
                    have m2 := sumN_le outs (j + 1)
                    rcases hpre i (by omega) k hsome with g | g
                    · exact g (hno k (by omega) (by omega))
                    · omega
      · exact evO_congr hlk (.inl (by simpa using hrd)) hevi
    have hdst : aos[i].dst = ops[i].dst := by
      have := hro
      unfold resO at this
      split at this
      · cases this
      · split at this
        · simp only [Option.some.injEq] at this; rw [← this]
        · split at this
          · simp only [Option.some.injEq] at this; rw [← this]
          · cases this
    have hsucc := sumN_take outs i outs[i] hou
    have hle1 := sumN_le outs (i + 1)
    refine (evO_sound2 ho hro hevD hC hr hd (by omega) (fun k k1 k2 => ?_) fun v Λ' k1 k2 k3 k4 k5 => ?_).2
    · obtain ⟨f1, f2⟩ := hfr i outs[i] hou hi2 k k1 (by omega)
      exact ⟨by omega, f1, f2⟩
    · have hr1 : Rel C Λ' ((stD (dOf listed) 0 st aos outs).app aos[i].dst outs[i]) (a.put aos[i].dst v) := hr.step k1 (fun x hx => hd i _ x ho (by rw [← hdst]; exact hx)) k4 k3
      have hset := dOf_set listed (i := i) (by omega)
      have heq : Eqv (stD (dOf (listed.setIfInBounds i true)) 0 st aos outs) ((stD (dOf listed) 0 st aos outs).app aos[i].dst outs[i]) := by
        refine stD_insert (n := i) aos outs 0 st hao hou (by simpa using hi2) (by simp [hset]) (fun j hj => by rw [hset]; simp at hj; simp [hj]) (fun j bo p hb hp hlt hD => ?_)
        simp only [Nat.zero_add] at hD
        rcases hord j bo p hb hp (by omega) with h | ⟨h1, h2, h3, h4⟩
        · rw [hD] at h; simp at h; omega
        · refine ⟨fun x hx hbx => ?_, fun k x y hx hy => ?_⟩
          · unfold AO.clash at h2
            simp only [Bool.or_eq_false_iff] at h2
            have := h2.2.1
            unfold AO.same at this
            simp [hx, hbx] at this
          · have hob : outs[i].ob.isEmpty = false := by cases hh : outs[i].ob with | nil => rw [hh] at hx; simp at hx | cons _ _ => rfl
            have hpb : p.ob.isEmpty = false := by cases hh : p.ob with | nil => rw [hh] at hy; simp at hy | cons _ _ => rfl
            have hni : aos[i].near = false := by
              cases hh : aos[i].near with
              | false => rfl
              | true => have := near_ob hh hevi; rw [this] at hx; simp at hx
            have hnb : bo.near = false := by
              cases hh : bo.near with
              | false => rfl
              | true => have := near_ob hh (hev j bo p hb hp); rw [this] at hy; simp at hy
            have hbl : j < aos.length := (List.getElem?_eq_some_iff.1 hb).1
            have hbe : aos[j] = bo := (List.getElem?_eq_some_iff.1 hb).2
            simp only [hpb, hni, hoffs i j hia hni, Bool.not_false, Bool.true_or, Bool.and_true, Bool.false_and] at h3
            simp only [hob, hnb, hoffs j i hbl (by rw [hbe]; exact hnb), Bool.not_false, Bool.true_or, Bool.and_true, Bool.false_and] at h4
            have n1 := evO_new hevi h3 k x hx
            have n2 := evO_new (hev j bo p hb hp) h4 k y hy
            have := sumN_mono outs (i + 1) j (by omega)
            omega
      have hr2 := hr1.eqv heq.symm
      rw [← hdst]
      have hnm := evO_names hevD
      refine ih (listed.setIfInBounds i true) Λ' _ (by simpa using hs) ?_ (fun j hj l hl => ?_) hr2 (by omega) (fun j o hj hD k h1 h2 => ?_)
      · have := unl_set (D := dOf listed) (D' := dOf (listed.setIfInBounds i true)) (i := i) hi2 (by simp [hset]) (fun j hj => by simp [hset, hj]) hi1
        omega
      · rw [hset] at hj ⊢
        split
        · rfl
        · by_cases e : j = i
          · subst e; exact hi3 l hl
          · simp only [e, if_false] at hj; exact hcl j hj l hl
      · rw [hset] at hD
        have hne : j ≠ i := by rintro rfl; simp at hD
        simp only [hne, if_false] at hD
        obtain ⟨f1, f2⟩ := hfr j o hj hD k h1 h2
        have hout : k < base + sumN (outs.take i) ∨ base + sumN (outs.take i) + outs[i].n ≤ k := by
          rcases Nat.lt_or_gt_of_ne hne with h | h
          · have := sumN_mono outs (j + 1) i (by omega); left; omega
          · have := sumN_mono outs (i + 1) j (by omega); right; omega
        have hout' : base + sumN (outs.take i) + outs[i].n ≤ k ∨ (k < base + sumN (outs.take i) ∧ (outs[i].rd = false ∨ aos[i].near = true)) := by
          rcases hout with h | h
          · right
            refine ⟨h, ?_⟩
            have hon : 0 < o.n := by have := sumN_take outs j o hj; omega
            have hjl : j < aos.length := by rw [hlo]; exact (List.getElem?_eq_some_iff.1 hj).1
            rcases hord j aos[j] o (by simp [hjl]) hj hne with e | ⟨_, _, e, _⟩
            · rw [hD] at e
              simp at e
              have := sumN_mono outs (i + 1) j (by omega)
              omega
            · cases hn1 : outs[i].rd with
              | false => exact .inl rfl
              | true =>
                cases hn2 : aos[i].near with
                | true => exact .inr rfl
                | false => simp [hn1, hn2, hon, hoffs i j hia hn2] at e
          · exact .inl h
        exact ⟨k5 k f1 f2 hout', by rw [heq.sto]; exact free_after hnm f2 hout _⟩

end
end Go.GB


/-
  GbU: code on abstract states; functions.
-/
namespace Go.GB

inductive AExit where
  | normal
  | exit (id : Nat)
  | ret

def exitOf : Exit → Option AExit
  | .normal => some .normal
  | .exit id => some (.exit id)
  | .ret => some .ret
  | _ => none

/-- every slot that is written lies in the frame -/
def codeOk (n : Nat) : Code → Bool
  | .region _ ops _ => ops.all fun o => match o.dst with | some d => decide (d < n) | none => true
  | .seq a b => codeOk n a && codeOk n b
  | .cond _ a b => codeOk n a && codeOk n b
  | .block _ c => codeOk n c
  | .loop c => codeOk n c
  | .scope c => codeOk n c
  | _ => true

def keepE (live : List Nat) : List (Nat × V) → List (Nat × V)
  | [] => []
  | (t, x) :: r => if live.contains t then (t, x) :: keepE live r else keepE live r

theorem look_keepE (live : List Nat) : ∀ (e : List (Nat × V)) (t : Nat), look (keepE live e) t = look e t ∨ look (keepE live e) t = .top
  | [], t => .inl rfl
  | (k, x) :: r, t => by
    simp only [keepE]
    by_cases hk : live.contains k = true
    · simp only [hk, if_true]
      by_cases e : k = t
      · subst e; left; simp [look, aget]
      · have := look_keepE live r t; simpa [look, aget, e] using this
    · simp only [hk, Bool.false_eq_true, if_false]
      by_cases e : k = t
      · subst e
        right
        have : ∀ r : List (Nat × V), look (keepE live r) k = .top := by
          intro r
          induction r with
          | nil => rfl
          | cons h r ih =>
            obtain ⟨j, y⟩ := h
            simp only [keepE]
            by_cases hj : live.contains j = true
            · have hne : j ≠ k := by rintro rfl; exact hk hj
              simp only [hj, if_true]; simpa [look, aget, hne] using ih
            · simp only [hj, Bool.false_eq_true, if_false]; exact ih
        exact this r
      · have := look_keepE live r t; simpa [look, aget, e] using this

def Post (C : Ctx) (Q : AExit → St → Prop) : Exit → Act → World → Prop := fun e a w => ∃ x st Λ, exitOf e = some x ∧ Q x st ∧ Rel C Λ st a ∧ Λ.nxt = st.s.nxt ∧ Λ.w = w

/-- Code on an abstract state: n slots; m names at the function's entry. -/
def Sat (P : Program) (n m : Nat) (c : ACode) (st : St) (Q : AExit → St → Prop) : Prop :=
  ∀ (code : Code), resC P code = some c.bare → codeOk n code = true → P.follows .mixedOrders = true → ∀ (C : Ctx) (Λ : L) (a : Act), C.P = P → C.n = n → C.Λ.nxt = m → Rel C Λ st a → Λ.nxt = st.s.nxt →
    code.wp P (Post C Q) a Λ.w

section
variable {P : Program} {n m : Nat} {st : St} {Q : AExit → St → Prop}

theorem Sat.mono {c : ACode} {Q' : AExit → St → Prop} (h : Sat P n m c st Q) (hq : ∀ e st, Q e st → Q' e st) : Sat P n m c st Q' := by
  intro code h1 h2 h3 C Λ a h4 h5 h6 h7 h8
  exact wp_mono (h code h1 h2 h3 C Λ a h4 h5 h6 h7 h8) fun e a w ⟨x, s, Λ', k1, k2, k3⟩ => ⟨x, s, Λ', k1, hq _ _ k2, k3⟩

theorem resC_cases {code : Code} {c : ACode} (h : resC P code = some c) :
    match c with
    | .skip => code = .skip
    | .region draw l after live => ∃ id ops, code = .region id ops draw ∧ resOs P ops ops.toList = some l ∧ (draw = true → after = afterOf ops) ∧ live = []
    | .seq a b => ∃ x y, code = .seq x y ∧ resC P x = some a ∧ resC P y = some b
    | .cond z a b => ∃ c x y, code = .cond c x y ∧ opA c = some z ∧ resC P x = some a ∧ resC P y = some b
    | .block id a => ∃ x, code = .block id x ∧ resC P x = some a
    | .loop a => ∃ x, code = .loop x ∧ resC P x = some a
    | .exit id => code = .exit id
    | .ret => code = .ret
    | .scope a => ∃ x, code = .scope x ∧ resC P x = some a
    | .lbl => ∃ l, code = .label l := by
  cases code with
  | skip => simp [resC] at h; subst h; rfl
  | region id ops draw =>
    simp only [resC] at h
    split at h
    · rename_i l hl
      simp at h; subst h
      refine ⟨id, ops, rfl, hl, fun hd => ?_, rfl⟩
      simp [hd]
    · cases h
  | seq a b =>
    simp only [resC] at h
    split at h
    · rename_i x y h1 h2; simp at h; subst h; exact ⟨a, b, rfl, h1, h2⟩
    · cases h
  | cond c a b =>
    simp only [resC] at h
    split at h
    · rename_i z x y h1 h2 h3; simp at h; subst h; exact ⟨c, a, b, rfl, h1, h2, h3⟩
    · cases h
  | block id c => simp only [resC, Option.map_eq_some_iff] at h; obtain ⟨x, h1, rfl⟩ := h; exact ⟨c, rfl, h1⟩
  | loop c => simp only [resC, Option.map_eq_some_iff] at h; obtain ⟨x, h1, rfl⟩ := h; exact ⟨c, rfl, h1⟩
  | exit id => simp [resC] at h; subst h; rfl
  | ret => simp [resC] at h; subst h; rfl
  | scope c => simp only [resC, Option.map_eq_some_iff] at h; obtain ⟨x, h1, rfl⟩ := h; exact ⟨c, rfl, h1⟩
  | label l => simp [resC] at h; subst h; exact ⟨l, rfl⟩
  | _ => simp [resC] at h

theorem Sat.skip (h : Q .normal st) : Sat P n m .skip st Q := by
  intro code h1 h2 _ C Λ a h4 h5 h6 h7 h8
  have := resC_cases h1
  simp only [ACode.bare] at this
  subst this
  exact wp_skip ⟨.normal, st, Λ, rfl, h, h7, h8, rfl⟩

theorem Sat.lbl (h : Q .normal st) : Sat P n m .lbl st Q := by
  intro code h1 h2 _ C Λ a h4 h5 h6 h7 h8
  have := resC_cases h1
  simp only [ACode.bare] at this
  obtain ⟨l, rfl⟩ := this
  exact wp_label ⟨.normal, st, Λ, rfl, h, h7, h8, rfl⟩

theorem Sat.scope {a : ACode} (h : Sat P n m a st Q) : Sat P n m (.scope a) st Q := by
  intro code h1 h2 h3 C Λ ac h4 h5 h6 h7 h8
  have := resC_cases h1
  simp only [ACode.bare] at this
  obtain ⟨x, rfl, hx⟩ := this
  simp only [codeOk] at h2
  refine wp_scope_straight (wp_mono (h x hx h2 h3 C Λ ac h4 h5 h6 h7 h8) fun e a' w' hp => ?_)
  obtain ⟨z, st', Λ', k1, k2, k3, k4, rfl⟩ := hp
  cases e with
  | normal => exact ⟨z, st', Λ', k1, k2, k3, k4, rfl⟩
  | exit id' => exact ⟨z, st', Λ', k1, k2, k3, k4, rfl⟩
  | ret => exact ⟨z, st', Λ', k1, k2, k3, k4, rfl⟩
  | goto l => simp [exitOf] at k1
  | panic c => simp [exitOf] at k1
  | outgrown => simp [exitOf] at k1

theorem Sat.ret (h : Q .ret st) : Sat P n m .ret st Q := by
  intro code h1 h2 _ C Λ a h4 h5 h6 h7 h8
  have := resC_cases h1
  simp only [ACode.bare] at this
  subst this
  exact wp_ret ⟨.ret, st, Λ, rfl, h, h7, h8, rfl⟩

theorem Sat.exit {id : Nat} (h : Q (.exit id) st) : Sat P n m (.exit id) st Q := by
  intro code h1 h2 _ C Λ a h4 h5 h6 h7 h8
  have := resC_cases h1
  simp only [ACode.bare] at this
  subst this
  exact wp_exit ⟨.exit id, st, Λ, rfl, h, h7, h8, rfl⟩

/-- what follows the first part -/
def thenA (K : St → Prop) (Q : AExit → St → Prop) : AExit → St → Prop
  | .normal, st => K st
  | e, st => Q e st

theorem Sat.seq {a b : ACode} (h : Sat P n m a st (thenA (fun st' => Sat P n m b st' Q) Q)) : Sat P n m (.seq a b) st Q := by
  intro code h1 h2 h3 C Λ ac h4 h5 h6 h7 h8
  have := resC_cases h1
  simp only [ACode.bare] at this
  obtain ⟨x, y, rfl, hx, hy⟩ := this
  simp only [codeOk, Bool.and_eq_true] at h2
  refine wp_seq (wp_mono (h x hx h2.1 h3 C Λ ac h4 h5 h6 h7 h8) fun e a' w' hp => ?_)
  obtain ⟨z, st', Λ', k1, k2, k3, k4, rfl⟩ := hp
  cases e with
  | normal =>
    simp [exitOf] at k1; subst k1
    exact k2 y hy h2.2 h3 C Λ' a' h4 h5 h6 k3 k4
  | exit id => simp [exitOf] at k1; subst k1; exact ⟨_, st', Λ', rfl, k2, k3, k4, rfl⟩
  | ret => simp [exitOf] at k1; subst k1; exact ⟨_, st', Λ', rfl, k2, k3, k4, rfl⟩
  | goto l => simp [exitOf] at k1
  | panic c => simp [exitOf] at k1
  | outgrown => simp [exitOf] at k1

theorem Sat.cond {z : Ar} {a b : ACode} {t : Bool} (hz : z.v st = .t (.bool t)) (h : Sat P n m (if t then a else b) st Q) : Sat P n m (.cond z a b) st Q := by
  intro code h1 h2 h3 C Λ ac h4 h5 h6 h7 h8
  have := resC_cases h1
  simp only [ACode.bare] at this
  obtain ⟨c, x, y, rfl, hc, hx, hy⟩ := this
  simp only [codeOk, Bool.and_eq_true] at h2
  have hv := h7.opd hc
  rw [hz] at hv
  refine wp_cond hv.repT.bool_inv ?_
  cases t with
  | true => exact h x hx h2.1 h3 C Λ ac h4 h5 h6 h7 h8
  | false => exact h y hy h2.2 h3 C Λ ac h4 h5 h6 h7 h8

def inBlk (id : Nat) (Q : AExit → St → Prop) : AExit → St → Prop
  | .exit id', st => if id' = id then Q .normal st else Q (.exit id') st
  | e, st => Q e st

theorem Sat.block {id : Nat} {a : ACode} (h : Sat P n m a st (inBlk id Q)) : Sat P n m (.block id a) st Q := by
  intro code h1 h2 h3 C Λ ac h4 h5 h6 h7 h8
  have := resC_cases h1
  simp only [ACode.bare] at this
  obtain ⟨x, rfl, hx⟩ := this
  simp only [codeOk] at h2
  refine wp_block (wp_mono (h x hx h2 h3 C Λ ac h4 h5 h6 h7 h8) fun e a' w' hp => ?_)
  obtain ⟨z, st', Λ', k1, k2, k3, k4, rfl⟩ := hp
  cases e with
  | normal => simp [exitOf] at k1; subst k1; exact ⟨_, st', Λ', rfl, k2, k3, k4, rfl⟩
  | exit id' =>
    simp [exitOf] at k1; subst k1
    simp only [inBlk] at k2
    simp only [Exit.inBlock]
    split
    · rename_i e; simp only [e, if_true] at k2; exact ⟨_, st', Λ', rfl, k2, k3, k4, rfl⟩
    · rename_i e; simp only [e, if_false] at k2; exact ⟨_, st', Λ', rfl, k2, k3, k4, rfl⟩
  | ret => simp [exitOf] at k1; subst k1; exact ⟨_, st', Λ', rfl, k2, k3, k4, rfl⟩
  | goto l => simp [exitOf] at k1
  | panic c => simp [exitOf] at k1
  | outgrown => simp [exitOf] at k1

/-- from the head of a loop on -/
def wpLp (P : Program) (c : Code) (Q : Exit → Act → World → Prop) (a : Act) (w : World) : Prop :=
  ∀ (b : Frame) (k : List Item) (cs : List Frame), ∃ e a' w', Q e a' w' ∧ Arrives P (lone (b.at a (.code c :: .inLoop c :: k)) cs w) b k cs e a' w'

theorem wp_of_lp {c : Code} {Q : Exit → Act → World → Prop} {a : Act} {w : World} (h : wpLp P c Q a w) : (Code.loop c).wp P Q a w := by
  intro b k cs
  obtain ⟨e, a', w', hq, harr⟩ := h b k cs
  exact ⟨e, a', w', hq, .of_steps (.one step_loop) harr⟩

theorem lp_unroll {c : Code} {Q : Exit → Act → World → Prop} {a : Act} {w : World} (h : c.wp P (Exit.then (wpLp P c Q) Q) a w) : wpLp P c Q a w := by
  intro b k cs
  obtain ⟨e, a₁, w₁, hq, harr⟩ := h b (.inLoop c :: k) cs
  cases e with
  | normal =>
    obtain ⟨e₂, a₂, w₂, hq₂, harr₂⟩ := hq b k cs
    exact ⟨e₂, a₂, w₂, hq₂, .of_steps (Steps.trans harr (.one step_inLoop)) harr₂⟩
  | exit id => exact ⟨_, a₁, w₁, hq, .pass (x := .inLoop c) rfl (fun _ _ => .inl (by simp)) harr⟩
  | goto l => exact ⟨_, a₁, w₁, hq, .pass (x := .inLoop c) rfl (fun _ _ => .inl (by simp)) harr⟩
  | ret => exact ⟨_, a₁, w₁, hq, .pass (x := .inLoop c) rfl (fun _ _ => .inl (by simp)) harr⟩
  | panic ch => exact ⟨_, a₁, w₁, hq, .pass (x := .inLoop c) rfl (fun _ _ => .inl (by simp)) harr⟩
  | outgrown => exact ⟨_, a₁, w₁, hq, .pass (x := .inLoop c) rfl (fun _ _ => .inl (by simp)) harr⟩

/-- A loop, from its head on. -/
def SatL (P : Program) (n m : Nat) (c : ACode) (st : St) (Q : AExit → St → Prop) : Prop :=
  ∀ (code : Code), resC P code = some c.bare → codeOk n code = true → P.follows .mixedOrders = true → ∀ (C : Ctx) (Λ : L) (a : Act), C.P = P → C.n = n → C.Λ.nxt = m → Rel C Λ st a → Λ.nxt = st.s.nxt →
    wpLp P code (Post C Q) a Λ.w

theorem Sat.loop {c : ACode} (h : SatL P n m c st Q) : Sat P n m (.loop c) st Q := by
  intro code h1 h2 h3 C Λ ac h4 h5 h6 h7 h8
  have := resC_cases h1
  simp only [ACode.bare] at this
  obtain ⟨x, rfl, hx⟩ := this
  simp only [codeOk] at h2
  exact wp_of_lp (h x hx h2 h3 C Λ ac h4 h5 h6 h7 h8)

theorem SatL.unroll {c : ACode} (h : Sat P n m c st (thenA (fun st' => SatL P n m c st' Q) Q)) : SatL P n m c st Q := by
  intro code h1 h2 h3 C Λ ac h4 h5 h6 h7 h8
  refine lp_unroll (wp_mono (h code h1 h2 h3 C Λ ac h4 h5 h6 h7 h8) fun e a' w' hp => ?_)
  obtain ⟨z, st', Λ', k1, k2, k3, k4, rfl⟩ := hp
  cases e with
  | normal =>
    simp [exitOf] at k1; subst k1
    exact k2 code h1 h2 h3 C Λ' a' h4 h5 h6 k3 k4
  | exit id => simp [exitOf] at k1; subst k1; exact ⟨_, st', Λ', rfl, k2, k3, k4, rfl⟩
  | ret => simp [exitOf] at k1; subst k1; exact ⟨_, st', Λ', rfl, k2, k3, k4, rfl⟩
  | goto l => simp [exitOf] at k1
  | panic c => simp [exitOf] at k1
  | outgrown => simp [exitOf] at k1

/-- Knowing less: k names are kept. -/
theorem Sat.weak {c : ACode} {st' : St} (k : Nat) (h : Sat P n m c st' Q) (h1 : m ≤ k) (h2 : k ≤ st.s.nxt) (h3 : k ≤ st'.s.nxt) (he : LeE k st'.s.nxt st.env st'.env) (hs : LeS k st'.s.nxt st.s.sto st'.s.sto) : Sat P n m c st Q := by
  intro code e1 e2 e3 C Λ a e4 e5 e6 e7 e8
  exact h code e1 e2 e3 C (Λ.cut k st'.s.nxt) a e4 e5 e6 (e7.weak (by omega) (by omega) h3 he hs) rfl

theorem SatL.weak {c : ACode} {st' : St} (k : Nat) (h : SatL P n m c st' Q) (h1 : m ≤ k) (h2 : k ≤ st.s.nxt) (h3 : k ≤ st'.s.nxt) (he : LeE k st'.s.nxt st.env st'.env) (hs : LeS k st'.s.nxt st.s.sto st'.s.sto) : SatL P n m c st Q := by
  intro code e1 e2 e3 C Λ a e4 e5 e6 e7 e8
  exact h code e1 e2 e3 C (Λ.cut k st'.s.nxt) a e4 e5 e6 (e7.weak (by omega) (by omega) h3 he hs) rfl

/-- the state behind a region -/
def regSt (live : List Nat) (b : Nat) (st : St) : St := { env := keepE live st.env, s := { st.s with nxt := b } }

theorem Rel.keep {C : Ctx} {Λ : L} {a : Act} (h : Rel C Λ st a) (live : List Nat) (b : Nat) : Rel C Λ (regSt live b st) a := by
  refine ⟨h.kp, h.size, h.defers, fun t => ?_, ⟨h.s.sto, h.s.inj, h.s.new, h.s.bnd, h.s.frz, h.s.injF, h.s.bndF, h.s.frzF⟩⟩
  rcases look_keepE live st.env t with e | e
  · simp only [regSt, e]; exact h.env t
  · simp only [regSt, e]; exact .top

/-- no region asks for more in an order that is not drawn -/
def regOk (draw : Bool) (ops : List AO) (after : List (List Nat)) (fl : List (Bool × Bool)) (env : List (Nat × V)) : Prop := draw = true → indep ops after fl env = true

theorem Sat.region {draw : Bool} {ops : List AO} {after : List (List Nat)} {live : List Nat} (h : evR P st.s.nxt st ops [] (fun b st' fl => regOk draw ops after fl st'.env ∧ Q .normal (regSt live b st'))) : Sat P n m (.region draw ops after live) st Q := by
  intro code h1 h2 h3 C Λ a h4 h5 h6 h7 h8
  have := resC_cases h1
  simp only [ACode.bare] at this
  obtain ⟨id, os, rfl, hres, haft, _⟩ := this
  obtain ⟨outs, b', st', hch, hok, hq⟩ := evR_chain h
  simp only [List.nil_append] at hok
  have hd : DstOk C os := by
    intro j p d hp hpd
    simp only [codeOk, Array.all_eq_true'] at h2
    have := h2 p (Array.mem_of_getElem? hp)
    rw [hpd] at this
    rw [h5]; simpa using this
  have hle := Ch.le hch
  have hr' := h7.up (m := b') (by omega)
  have hfree : ∀ k, st.s.nxt ≤ k → Free Λ k ∧ aget st.s.sto k = none := by
    intro k hk
    refine ⟨h7.s.free (by omega), ?_⟩
    cases ha : aget st.s.sto k with
    | none => rfl
    | some o => have := (h7.s.sto k o ha).1; omega
  have hfin : ∀ (a' : Act) (Λ' : L), Rel C Λ' st' a' → Λ'.nxt = b' → Post C Q .normal a' Λ'.w := fun a' Λ' k1 k2 => ⟨.normal, _, Λ', rfl, hq, k1.keep live b', k2, rfl⟩
  obtain ⟨hlen, _⟩ := resOs_at hres
  cases draw with
  | false =>
    refine wp_region ?_
    have := seq_ops (Q := Post C Q) h4 hd hres b' ops 0 st.s.nxt st outs (Λ.up b') a rfl hch hr' rfl (Nat.le_refl _) (fun k k1 k2 => ⟨⟨(hfree k k1).1.obj, (hfree k k1).1.arr, (hfree k k1).1.fro, (hfree k k1).1.fob, (hfree k k1).1.far, (hfree k k1).1.frf⟩, (hfree k k1).2⟩) hfin
    rw [List.range_eq_range']
    rw [← hlen, Array.length_toList] at this
    exact this
  | true =>
    refine wp_region_any h3 ?_
    rw [haft rfl] at hok
    have h0 : ∀ j, dOf (Array.replicate os.size false) j = false := by
      intro j; unfold dOf; simp [Array.getD_eq_getD_getElem?, Array.getElem?_replicate]
      split <;> rfl
    have hst0 : stD (dOf (Array.replicate os.size false)) 0 st ops outs = st := stD_none _ _ _ _ (fun j _ => h0 j)
    have hdrew : Rel C { Λ.up b' with w := { Λ.w with drawn := Λ.w.drawn + 1 } } st a := by
      have hk : Kp (Λ.up b') { Λ.up b' with w := { Λ.w with drawn := Λ.w.drawn + 1 } } :=
        ⟨⟨rfl, rfl, rfl, Nat.le_refl _, fun _ _ _ h => ⟨h, rfl⟩, fun _ _ _ _ h o ho => ⟨by simp [Rd, h, ho], rfl⟩, fun _ _ _ _ _ h o ho => ⟨by simp [Rd, h, ho], rfl⟩⟩, Nat.le_refl _, fun _ _ _ h => h, fun _ _ _ _ _ h _ => ⟨h, rfl⟩, fun _ _ => Nat.le_refl _, fun _ _ _ _ h => ⟨h, fun _ h => h⟩, fun _ _ _ _ _ _ h _ => ⟨h, rfl⟩, fun _ _ _ => Nat.le_refl _, fun _ _ _ _ _ _ h => h⟩
      refine ⟨hr'.kp.trans hk, hr'.size, hr'.defers, fun t => (hr'.env t).mono hk, hr'.s.step hk rfl (fun k o ho => .inl ⟨ho, fun _ _ => rfl, rfl⟩) hr'.s.inj hr'.s.new hr'.s.bnd hr'.s.frz ⟨fun _ _ _ => Iff.rfl, fun _ _ _ _ => Iff.rfl, rfl, fun _ _ _ _ => rfl, fun _ _ _ _ _ _ => rfl⟩⟩
    have := drawn_ops (Q := Post C Q) h4 hd hres hch (hok rfl) (Nat.le_refl _) (fun k k1 _ => (hfree k (by omega)).2) hfin os.size (Array.replicate os.size false) { Λ.up b' with w := { Λ.w with drawn := Λ.w.drawn + 1 } } a (by simp) (by rw [unl_all (fun j _ => h0 j)]; exact Nat.le_refl _)
      (fun i hi => by rw [h0] at hi; cases hi) (by rw [hst0]; exact hdrew) rfl (fun i o _ _ k k1 k2 => by
        rw [hst0]
        have hk : st.s.nxt ≤ k := by omega
        exact ⟨⟨(hfree k hk).1.obj, (hfree k hk).1.arr, (hfree k hk).1.fro, (hfree k hk).1.fob, (hfree k hk).1.far, (hfree k hk).1.frf⟩, (hfree k hk).2⟩)
    exact this

end
end Go.GB


/-
  GbV: functions: their entry, their results, contracts, and calls of functions that are handed no objects.
-/
namespace Go.GB

inductive ARes where
  | tmp (t : Nat)
  | cell (a : Nat) (ag : Bool) (n : Nat)

def resR (P : Program) : ResultVar → Option ARes
  | .tmp t => some (.tmp t)
  | .cell a t =>
    match szOf P t, P.underlying t with
    | some n, some _ => some (.cell a (isAggT P t) n)
    | _, _ => none

def ARes.v (st : St) : ARes → Option V
  | .tmp t => some (look st.env t)
  | .cell a ag n =>
    match look st.env a with
    | .ptr k o =>
      match aget st.s.sto k with
      | some (.cells cs) => if ag then (if o + n ≤ cs.length then some (.agg ((cs.drop o).take n)) else none) else cs[o]?
      | _ => none
    | _ => none

def ressV (st : St) : List ARes → Option V
  | [] => some (.tup [])
  | [r] => r.v st
  | [r, q] => match r.v st, q.v st with | some x, some y => some (.tup [x, y]) | _, _ => none
  | [r, q, p] => match r.v st, q.v st, p.v st with | some x, some y, some z => some (.tup [x, y, z]) | _, _, _ => none
  | _ => none

/-- what a proof must know of a function: its slots, its code, its results -/
def fnInfo (P : Program) (f : FuncId) : Option (Nat × ACode × List ARes) :=
  match P.funcs[f]? with
  | some fn =>
    match fn.body with
    | some c =>
      match resC P c, fn.results.toList.mapM (resR P) with
      | some a, some rs => if codeOk fn.ntmps c && !(fn.name == "runtime.NumGoroutine") then some (fn.ntmps, a, rs) else none
      | _, _ => none
    | none => none
  | none => none

def entryE : Nat → List V → List (Nat × V)
  | _, [] => []
  | i, x :: r => (i, x) :: entryE (i + 1) r

theorem look_entry : ∀ (vs : List V) (i t : Nat), look (entryE i vs) t = if i ≤ t then (vs[t - i]?).getD .top else .top
  | [], i, t => by simp [entryE, look, aget]
  | x :: r, i, t => by
    simp only [entryE]
    by_cases e : i = t
    · subst e; simp [look, aget]
    · have := look_entry r (i + 1) t
      simp only [look, aget, e, if_false] at this ⊢
      rw [this]
      by_cases h : i ≤ t
      · have : t - i = (t - (i + 1)) + 1 := by omega
        rw [if_pos (by omega), if_pos h, this]; simp
      · rw [if_neg (by omega), if_neg h]

/-- A function's contract: what it hands back and does to the objects that it is handed. -/
def FnOk (P : Program) (f : FuncId) (vs : List V) (s : S) (out : Out) : Prop :=
  HasB P f ∧ ∀ (Λ : L) (args : Array Value), RelS Λ s → Λ.nxt = s.nxt → args.size = vs.length → (∀ (j : Nat) (v : Value) (x : V), args[j]? = some v → vs[j]? = some x → RelV Λ v x) →
    Calls P f args Λ.w fun e w' => ∃ v Λ', e = .returned v ∧ Λ'.w = w' ∧ Kp Λ Λ' ∧ Λ'.nxt = s.nxt + out.n ∧ RelS Λ' ⟨asets s.sto out.ob, 0⟩ ∧ RelV Λ' v out.v

/-- how a result leaves: names from m on are forgotten; a slice that was made is as it stands -/
def LeR (m : Nat) (s : S) (r r' : V) : Prop := ∀ (Λ : L) (v : Value), m ≤ Λ.nxt → RelS Λ s → RelV Λ v r → RelV (Λ.cut m m) v r'

theorem LeR.le {m : Nat} {s : S} {r r' : V} (h : LeX m m r r') : LeR m s r r' := fun _ _ hm _ hr => h.cut (Nat.le_refl _) hm hr

theorem LeR.slc {m : Nat} {s : S} {k sz : Nat} {cs : List V} {ts : List T} {xs : List (List T)} (hk : m ≤ k) (hs : aget s.sto k = some (.cells cs)) (hts : cs.mapM V.cell1 = some ts) (hxs : xs.flatten = ts) (hl : allLen sz xs = true) :
    LeR m s (.slc k 0 xs.length sz) (.t (.lst xs)) := by
  intro Λ v hm hr hv
  generalize hn : xs.length = n at hv
  cases hv with
  | @slc b _ _ _ cap _ _ hc hb =>
    subst hn
    obtain ⟨arr, e, h2, h3, h4⟩ := hr.objCells hs hb
    obtain ⟨k1, k2⟩ := mapM_cell1 cs ts hts
    have hlab : (Λ.cut m m).lab b = .fix none := by simp [L.cut, hb]; omega
    have hall := allLen_at hl
    refine .t (rep_block (sz := sz) (vs := arr.toList) (b := b) (w := (Λ.cut m m).w) h2 hc rfl hall (fun o _ => by simp [Rd, hlab]) (fun j v hj => by simpa using hj) (by rw [Array.length_toList, h3, k1, ← hxs, flat_len xs hall]) fun j v x e1 e2 => ?_)
    rw [hxs] at e2
    have hlt : j < cs.length := by rw [k1]; exact (List.getElem?_eq_some_iff.1 e2).1
    have := h4 j v cs[j] (by simpa using e1) (by simp [hlt])
    exact (this.cell1 (k2 j _ x (by simp [hlt]) e2)).cut

inductive LeRs (m : Nat) (s : S) : List V → List V → Prop
  | nil : LeRs m s [] []
  | cons {x y : V} {xs ys : List V} (h : LeR m s x y) (t : LeRs m s xs ys) : LeRs m s (x :: xs) (y :: ys)
theorem LeRs.spec {m : Nat} {s : S} {xs ys : List V} (h : LeRs m s xs ys) : xs.length = ys.length ∧ ∀ (j : Nat) (c d : V), xs[j]? = some c → ys[j]? = some d → LeR m s c d := by
  induction h with
  | nil => exact ⟨rfl, fun j c d h => by simp at h⟩
  | cons h _ ih =>
    refine ⟨by simp [ih.1], fun j c d h1 h2 => ?_⟩
    cases j with
    | zero => simp at h1 h2; subst h1; subst h2; exact h
    | succ j => exact ih.2 j c d (by simpa using h1) (by simpa using h2)

theorem LeR.tup {m : Nat} {s : S} {xs ys : List V} (h : LeRs m s xs ys) : LeR m s (.tup xs) (.tup ys) := by
  intro Λ v hm hr hv
  obtain ⟨h1, h2⟩ := h.spec
  cases hv with
  | tup hs hv =>
    refine .tup (hs.trans h1) fun j u d hj hd => ?_
    have hlt : j < xs.length := by rw [h1]; exact (List.getElem?_eq_some_iff.1 hd).1
    exact h2 j xs[j] d (by simp [hlt]) hd Λ u hm hr (hv j u _ hj (by simp [hlt]))

theorem LeR.agg {m : Nat} {s : S} {xs ys : List V} (h : LeRs m s xs ys) : LeR m s (.agg xs) (.agg ys) := by
  intro Λ v hm hr hv
  obtain ⟨h1, h2⟩ := h.spec
  cases hv with
  | agg hs hv =>
    refine .agg (hs.trans h1) fun j u d hj hd => ?_
    have hlt : j < xs.length := by rw [h1]; exact (List.getElem?_eq_some_iff.1 hd).1
    exact h2 j xs[j] d (by simp [hlt]) hd Λ u hm hr (hv j u _ hj (by simp [hlt]))

section
variable {P : Program}

/-- one result variable read -/
def resM (tmps : Array Value) : ResultVar → Sem Value
  | .tmp t => pure (tmps.getD t undef)
  | .cell a t => do loadVar t (← asAddr (tmps.getD a undef))

theorem results_eq (fn : Func) (tmps : Array Value) : results fn tmps = (do let vs ← fn.results.mapM (resM tmps); pure (if h : vs.size = 1 then vs[0] else .tuple vs)) := by
  unfold results
  congr 2

theorem run_res {C : Ctx} {Λ : L} {st : St} {a : Act} (hr : Rel C Λ st a) {rv : ResultVar} {r : ARes} {x : V} (h1 : resR P rv = some r) (h2 : r.v st = some x) :
    ∃ v, (resM a.tmps rv).run P Λ.w = .ok v Λ.w ∧ RelV Λ v x := by
  cases rv with
  | tmp t => simp [resR] at h1; subst h1; simp [ARes.v] at h2; subst h2; exact ⟨_, rfl, hr.env t⟩
  | cell ad t =>
    simp only [resR] at h1
    split at h1
    · rename_i n d hn hu
      simp at h1; subst h1
      simp only [ARes.v] at h2
      split at h2
      · rename_i k o hl
        split at h2
        · rename_i cs hk
          have hx := hr.env ad
          rw [hl] at hx
          simp only [resM]
          generalize a.tmps.getD ad undef = u at hx ⊢
          cases hx with
          | @ptr b _ _ _ hb =>
            obtain ⟨arr, e, e1, e2, e3⟩ := hr.s.objCells hk hb
            split at h2
            · rename_i hag
              split at h2
              · rename_i hle
                simp at h2; subst h2
                have hvl : ((arr.toList.drop o).take n).length = n := by simp; omega
                have hcell : ∀ (j : Nat) (v : Value), ((arr.toList.drop o).take n)[j]? = some v → Λ.w.cell? ⟨b, o + j, none⟩ = some v := by
                  intro j v hj
                  rw [List.getElem?_take] at hj
                  split at hj
                  · rw [List.getElem?_drop] at hj; rw [cell_of_row Λ.w b _ arr e _ e1]; simpa using hj
                  · cases hj
                have := run_loadAt_agg (P := P) hn hag hvl hcell
                simp [Instr.loadAt, Instr.sureAddr] at this
                exact ⟨.agg ((arr.toList.drop o).take n).toArray, by simp [asAddr, this], RelV.subL (vs := arr.toList) (fun j v c a1 a2 => e3 j v c (by simpa using a1) a2) (by simpa using e2) o n⟩
              · cases h2
            · rename_i hag
              have hlt : o < cs.length := (List.getElem?_eq_some_iff.1 h2).1
              have hcell : Λ.w.cell? ⟨b, o, none⟩ = some (arr[o]'(by omega)) := by rw [cell_of_row Λ.w b o arr e _ e1]; simp [e2, hlt]
              have := run_loadAt_one (P := P) hu (by simpa using hag) hcell
              simp [Instr.loadAt, Instr.sureAddr] at this
              exact ⟨arr[o]'(by omega), by simp [asAddr, this], e3 o _ x (by simp) h2⟩
        · cases h2
      · cases h2
    · cases h1

theorem run_results {C : Ctx} {Λ : L} {st : St} {a : Act} (hr : Rel C Λ st a) {fn : Func} {rs : List ARes} {x : V} (h1 : fn.results.toList.mapM (resR P) = some rs) (h2 : ressV st rs = some x) :
    ∃ v, (results fn a.tmps).run P Λ.w = .ok v Λ.w ∧ RelV Λ v x := by
  have hmap : ∀ (l : List ResultVar) (rs : List ARes), l.mapM (resR P) = some rs → l.length = rs.length ∧ ∀ (j : Nat) (x : ResultVar) (y : ARes), l[j]? = some x → rs[j]? = some y → resR P x = some y := by
    intro l
    induction l with
    | nil => intro c h; simp at h; subst h; simp
    | cons d cs ih =>
      intro c h
      simp only [List.mapM_cons, Option.bind_eq_bind, Option.pure_def, Option.bind_eq_some_iff] at h
      obtain ⟨y, hy, c', hc', h⟩ := h
      simp at h; subst h
      obtain ⟨i1, i2⟩ := ih c' hc'
      refine ⟨by simp [i1], fun j e z h1 h2 => ?_⟩
      cases j with
      | zero => simp at h1 h2; subst h1; subst h2; exact hy
      | succ j => exact i2 j e z (by simpa using h1) (by simpa using h2)
  obtain ⟨k1, k2⟩ := hmap _ _ h1
  unfold ressV at h2
  split at h2
  · simp at h2; subst h2
    have : fn.results = #[] := by simpa using k1
    exact ⟨.tuple #[], by simp [results, this], .tup rfl (by simp)⟩
  · rename_i r
    have : ∃ x0, fn.results = #[x0] := by
      match hfn : fn.results.toList, k1 with
      | [x0], _ => exact ⟨x0, by apply Array.ext'; simpa using hfn⟩
    obtain ⟨x0, he⟩ := this
    have hr0 := k2 0 x0 r (by simp [he]) rfl
    obtain ⟨v, e1, e2⟩ := run_res hr hr0 h2
    refine ⟨v, ?_, e2⟩
    rw [results_eq]; simp [he, e1]
  · rename_i r q
    have : ∃ x0 x1, fn.results = #[x0, x1] := by
      match hfn : fn.results.toList, k1 with
      | [x0, x1], _ => exact ⟨x0, x1, by apply Array.ext'; simpa using hfn⟩
    obtain ⟨x0, x1, he⟩ := this
    split at h2
    · rename_i y0 y1 g0 g1
      simp at h2; subst h2
      obtain ⟨v0, a1, a2⟩ := run_res hr (k2 0 x0 r (by simp [he]) rfl) g0
      obtain ⟨v1, b1, b2⟩ := run_res hr (k2 1 x1 q (by simp [he]) rfl) g1
      refine ⟨.tuple #[v0, v1], ?_, .tup rfl fun j v c hv hc => ?_⟩
      · rw [results_eq]; simp [he, a1, b1]
      · match j, hv, hc with
        | 0, hv, hc => simp at hv hc; subst hv; subst hc; exact a2
        | 1, hv, hc => simp at hv hc; subst hv; subst hc; exact b2
    · cases h2
  · rename_i r q p
    have : ∃ x0 x1 x2, fn.results = #[x0, x1, x2] := by
      match hfn : fn.results.toList, k1 with
      | [x0, x1, x2], _ => exact ⟨x0, x1, x2, by apply Array.ext'; simpa using hfn⟩
    obtain ⟨x0, x1, x2, he⟩ := this
    split at h2
    · rename_i y0 y1 y2 g0 g1 g2
      simp at h2; subst h2
      obtain ⟨v0, a1, a2⟩ := run_res hr (k2 0 x0 r (by simp [he]) rfl) g0
      obtain ⟨v1, b1, b2⟩ := run_res hr (k2 1 x1 q (by simp [he]) rfl) g1
      obtain ⟨v2, c1, c2⟩ := run_res hr (k2 2 x2 p (by simp [he]) rfl) g2
      refine ⟨.tuple #[v0, v1, v2], ?_, .tup rfl fun j v c hv hc => ?_⟩
      · rw [results_eq]; simp [he, a1, b1, c1]
      · match j, hv, hc with
        | 0, hv, hc => simp at hv hc; subst hv; subst hc; exact a2
        | 1, hv, hc => simp at hv hc; subst hv; subst hc; exact b2
        | 2, hv, hc => simp at hv hc; subst hv; subst hc; exact c2
    · cases h2
  · cases h2

/-- how a store leaves -/
def LeSto (m : Nat) (s : S) (sto' : List (Nat × AObj)) : Prop := ∀ (Λ : L), m ≤ Λ.nxt → RelS Λ s → RelS (Λ.cut m m) ⟨sto', 0⟩

theorem LeSto.le {m : Nat} {s : S} {sto' : List (Nat × AObj)} (h : LeS m m s.sto sto') : LeSto m s sto' := fun _ hm hr => hr.weak (s' := ⟨sto', 0⟩) hm (Nat.le_refl _) h

def AObj.bd (m : Nat) : AObj → Bool
  | .cells cs => V.bds m cs
  | .map _ es _ => V.bds m (es.map (·.2))
  | .arr _ => true
  | .iter q _ _ _ => decide (q < m)
  | .gro _ cs => V.bds m cs
  | .fobs os => os.all (V.bds m)
  | .farr _ => true
  | .memo _ _ => true
def stoBd (m : Nat) : List (Nat × AObj) → Bool
  | [] => true
  | (k, o) :: r => decide (k < m) && o.bd m && stoBd m r
theorem stoBd_at {m : Nat} : ∀ {s : List (Nat × AObj)}, stoBd m s = true → ∀ k o, aget s k = some o → k < m ∧ o.bd m = true
  | [], _, k, o, h => by simp [aget] at h
  | (j, x) :: r, hb, k, o, h => by
    simp only [stoBd, Bool.and_eq_true, decide_eq_true_eq] at hb
    by_cases e : j = k
    · subst e; simp [aget] at h; subst h; exact ⟨hb.1.1, hb.1.2⟩
    · simp only [aget, e, if_false] at h; exact stoBd_at hb.2 k o h

theorem RelO.cut {Λ : L} {m m' k : Nat} {o : AObj} (hm : m ≤ m') (hk : k < m) (hb : o.bd m = true) (h : RelO Λ k o) : RelO (Λ.cut m m') k o := by
  cases o with
  | cells cs =>
    obtain ⟨b, arr, e, e1, e2, e3, e4⟩ := h
    exact ⟨b, arr, e, cut_obj e1 hk, e2, e3, fun j v c a1 a2 => (e4 j v c a1 a2).cut hm (V.bds_at (by simpa [AObj.bd] using hb) j c a2)⟩
  | map kag es sx =>
    obtain ⟨b, ents, clock, e1, e2, e3⟩ := h
    exact ⟨b, ents, clock, cut_obj e1 hk, e2, e3.keep (fun _ _ h => h.cut) (fun i kv v hi hv => hv.cut hm (V.bds_at (by simpa [AObj.bd] using hb) i kv.2 (by simp [hi])))⟩
  | arr n => unfold RelO at *; simp [L.cut, hk, h]
  | iter q s seen c =>
    have hq : q < m := by simpa [AObj.bd] using hb
    obtain ⟨b, bm, e1, e2, e3, e4⟩ := h
    exact ⟨b, bm, cut_obj e1 hk, e2, cut_obj e3 hq, Nat.lt_of_lt_of_le hq hm⟩
  | gro r cs =>
    obtain ⟨h0, hr⟩ := h
    refine ⟨by simp [L.cut, hk, h0], ?_⟩
    rcases hr with ⟨e1, e2⟩ | ⟨b, arr, e, ⟨i, e1, e1'⟩, e2, e3, e4⟩
    · exact .inl ⟨e1, fun b i hb => e2 b i (cut_fob_inv hb).1⟩
    · exact .inr ⟨b, arr, e, ⟨i, cut_fob e1 hk, fun b' i' h' => e1' b' i' (cut_fob_inv h').1⟩, e2, e3, fun j v c a1 a2 => (e4 j v c a1 a2).cut hm (V.bds_at (by simpa [AObj.bd] using hb) j c a2)⟩
  | fobs os =>
    obtain ⟨h0, hr⟩ := h
    refine ⟨fun b i hbi => h0 b i (cut_fob_inv hbi).1, fun i cs hi => ?_⟩
    obtain ⟨b, arr, e, e1, e2, e3, e4⟩ := hr i cs hi
    have hbs : V.bds m cs = true := by
      have := hb; simp only [AObj.bd, List.all_eq_true] at this
      exact this cs (List.mem_of_getElem? hi)
    exact ⟨b, arr, e, cut_fob e1 hk, e2, e3, fun j v c a1 a2 => (e4 j v c a1 a2).cut hm (V.bds_at hbs j c a2)⟩
  | farr ns => intro i; have := h i; simpa [L.cut, hk] using this
  | memo kag I =>
    obtain ⟨b, ents, clock, e1, e2, e3, e4, e5⟩ := h
    refine ⟨b, ents, clock, cut_obj e1 hk, e2, e3, e4, fun i e hi => ?_⟩
    obtain ⟨cs, v, g1, g2, g3⟩ := e5 i e hi
    exact ⟨cs, v, g1.keep fun _ _ h => h.cut, g2.cut, g3⟩

theorem LeSto.same {m : Nat} {s : S} {sto' : List (Nat × AObj)} (h : ∀ k o, aget sto' k = some o → aget s.sto k = some o ∧ k < m ∧ o.bd m = true) : LeSto m s sto' := by
  intro Λ hm hr
  refine ⟨fun k o hk => ?_, fun b b' k h1 h2 => hr.inj b b' k (cut_obj_inv h1).1 (cut_obj_inv h2).1, fun b hb => cut_fix (hr.new b hb), fun b k hb => ?_, fun k hk => by have hk' : m ≤ k := hk; simp [L.cut]; omega, fun b b' k i h1 h2 => hr.injF b b' k i (cut_fob_inv h1).1 (cut_fob_inv h2).1, fun b k hb => ?_, fun k i hk => by have hk' : m ≤ k := hk; simp [L.cut]; omega⟩
  · obtain ⟨h1, h2, h3⟩ := h k o hk
    exact ⟨h2, (hr.sto k o h1).2.cut (Nat.le_refl _) h2 h3⟩
  · rcases hb with hb | ⟨n, hb⟩
    · exact (cut_obj_inv hb).2
    · exact (cut_arr_inv hb).2
  · rcases hb with ⟨i, hb⟩ | ⟨i, n, hb⟩
    · exact (cut_fob_inv hb).2
    · exact (cut_far_inv hb).2

/-- what must hold where a function ends -/
def EndOk (s : S) (out : Out) (rs : List ARes) : AExit → St → Prop
  | .exit _, _ => False
  | _, st => ∃ r, ressV st rs = some r ∧ s.nxt + out.n ≤ st.s.nxt ∧ LeR (s.nxt + out.n) st.s r out.v ∧ LeSto (s.nxt + out.n) st.s (asets s.sto out.ob)

theorem fnInfo_spec {f : FuncId} {n : Nat} {ac : ACode} {rs : List ARes} (h : fnInfo P f = some (n, ac, rs)) : ∃ fn c, P.funcs[f]? = some fn ∧ fn.body = some c ∧ resC P c = some ac ∧ fn.results.toList.mapM (resR P) = some rs ∧ codeOk n c = true ∧ fn.ntmps = n ∧ HasB P f := by
  unfold fnInfo at h
  split at h
  · rename_i fn hfn
    split at h
    · rename_i c hc
      split at h
      · rename_i a r h1 h2
        split at h
        · rename_i hok
          simp at h
          obtain ⟨rfl, rfl, rfl⟩ := h
          simp only [Bool.and_eq_true, Bool.not_eq_true'] at hok
          refine ⟨fn, c, hfn, hc, h1, h2, hok.1, rfl, fun args w => ?_⟩
          simp only [callFunc]
          simp [program, Sem.run, hfn, hc]
          have := hok.2
          simp at this
          simp [this]
        · cases h
      · cases h
    · cases h
  · cases h

theorem FnOk.of_sat {f : FuncId} {n : Nat} {ac : ACode} {rs : List ARes} {vs : List V} {s : S} {out : Out} (hi : fnInfo P f = some (n, ac.bare, rs)) (hm : P.follows .mixedOrders = true) (hn : vs.length ≤ n)
    (h : Sat P n s.nxt ac { env := entryE 0 vs, s := s } (EndOk s out rs)) : FnOk P f vs s out := by
  obtain ⟨fn, c, h1, h2, h3, h4, h5, h6, h7⟩ := fnInfo_spec hi
  refine ⟨h7, fun Λ args hs hx hsz hargs => ?_⟩
  refine calls_of_wp h1 h2 ?_
  have hrel : Rel { P := P, n := n, Λ := Λ } Λ { env := entryE 0 vs, s := s } { tmps := args ++ Array.replicate (fn.ntmps - args.size) undef, defers := [] } := by
    refine ⟨Kp.refl _, by simp [h6]; omega, rfl, fun t => ?_, hs⟩
    simp only
    rw [look_entry, if_pos (Nat.zero_le _), Nat.sub_zero]
    cases hv : vs[t]? with
    | none => exact .top
    | some x =>
      have hlt : t < args.size := by rw [hsz]; exact (List.getElem?_eq_some_iff.1 hv).1
      have he : (args ++ Array.replicate (fn.ntmps - args.size) undef).getD t undef = args[t] := by
        rw [Array.getD_eq_getD_getElem?, Array.getElem?_append_left hlt]; simp [hlt]
      rw [he]
      exact hargs t args[t] x (by simp [hlt]) hv
  refine wp_mono (h c h3 h5 hm { P := P, n := n, Λ := Λ } Λ _ rfl rfl hx hrel hx) fun e a' w' hp => ?_
  obtain ⟨x, st', Λ', k1, k2, k3, k4, rfl⟩ := hp
  have fin : (∃ r, ressV st' rs = some r ∧ s.nxt + out.n ≤ st'.s.nxt ∧ LeR (s.nxt + out.n) st'.s r out.v ∧ LeSto (s.nxt + out.n) st'.s (asets s.sto out.ob)) →
      a'.defers = [] ∧ ∃ v, (results fn a'.tmps).run P Λ'.w = .ok v Λ'.w ∧ ∃ v' Λ'', Ending.returned v = .returned v' ∧ Λ''.w = Λ'.w ∧ Kp Λ Λ'' ∧ Λ''.nxt = s.nxt + out.n ∧ RelS Λ'' ⟨asets s.sto out.ob, 0⟩ ∧ RelV Λ'' v' out.v := by
    rintro ⟨r, e1, e2, e3, e4⟩
    obtain ⟨v, f1, f2⟩ := run_results k3 h4 e1
    refine ⟨k3.defers, v, f1, v, Λ'.cut (s.nxt + out.n) (s.nxt + out.n), rfl, rfl, k3.kp.cut (by simp; omega) (Nat.le_refl _), rfl, ?_, e3 Λ' v (by omega) k3.s f2⟩
    exact e4 Λ' (by omega) k3.s
  cases e with
  | normal => simp [exitOf] at k1; subst k1; exact fin k2
  | ret => simp [exitOf] at k1; subst k1; exact fin k2
  | exit id => simp [exitOf] at k1; subst k1; exact k2.elim
  | goto l => simp [exitOf] at k1
  | panic ch => simp [exitOf] at k1
  | outgrown => simp [exitOf] at k1

/-- objects and growing arrays out of sight -/
def L.hide (Λ : L) : L where
  lab := fun b => match Λ.lab b with
    | .obj _ => .fix (some 0)
    | .arr _ fr => .fix (some fr)
    | .fob _ _ => .fix (some 0)
    | .far _ _ fr => .fix (some fr)
    | x => x
  fro := fun _ => 0
  nxt := 0
  w := Λ.w
  frf := fun _ _ => 0

theorem hide_lab (Λ : L) (b : Nat) : ∃ fr, Λ.hide.lab b = .fix fr := by
  simp only [L.hide]
  cases Λ.lab b with
  | fix fr => exact ⟨_, rfl⟩
  | obj k => exact ⟨_, rfl⟩
  | arr k n => exact ⟨_, rfl⟩
  | fob k i => exact ⟨_, rfl⟩
  | far k i n => exact ⟨_, rfl⟩

theorem hide_rd {Λ : L} {b o : Nat} : Rd Λ.hide.lab b o ↔ Rd Λ.lab b o := by
  unfold Rd
  simp only [L.hide]
  cases Λ.lab b with
  | fix fr => exact Iff.rfl
  | obj k => simp
  | arr k n => simp
  | fob k i => simp
  | far k i n => simp

theorem RepT.hide {Λ : L} {v : Value} {x : T} (h : RepT Λ.lab Λ.w v x) : RepT Λ.hide.lab Λ.hide.w v x := h.keep fun _ _ _ _ hr => ⟨hide_rd.2 hr, rfl⟩

theorem RelV.hide {Λ : L} {v : Value} {x : V} (h : RelV Λ v x) (hb : x.bd 0 = true) : RelV Λ.hide v x := by
  induction h with
  | t h => exact .t h.hide
  | nils => exact .nils
  | own _ _ _ _ _ => simp [V.bd] at hb
  | slc _ _ _ => simp [V.bd] at hb
  | agg hs _ ih => exact .agg hs fun j v c h1 h2 => ih j v c h1 h2 (V.bds_at (by simpa [V.bd] using hb) j c h2)
  | tup hs _ ih => exact .tup hs fun j v c h1 h2 => ih j v c h1 h2 (V.bds_at (by simpa [V.bd] using hb) j c h2)
  | ptr _ _ => simp [V.bd] at hb
  | mp _ _ => simp [V.bd] at hb
  | @fn f vs cs hs h =>
    refine .fn hs fun j v c h1 h2 => ?_
    simp only [V.bd, List.all_eq_true] at hb
    have := hb c (List.mem_of_getElem? h2)
    simp at this
  | gd _ h' ih => exact .gd (fun hc => ih hc (by simpa [V.bd] using hb)) h'
  | top => exact .top
  | ub h h' => exact .ub h h'
  | fpt _ _ => simp [V.bd] at hb
  | gpt _ _ _ _ => simp [V.bd] at hb
  | gsl _ _ _ _ => simp [V.bd] at hb
  | fow _ _ _ _ _ => simp [V.bd] at hb

theorem RelS.hide {Λ : L} {sto : List (Nat × AObj)} (h : RelS Λ ⟨sto, Λ.nxt⟩) : RelS Λ.hide ⟨[], 0⟩ := by
  refine ⟨by simp [aget], fun b b' k h1 => ?_, fun b hb => ?_, fun b k hb => ?_, fun _ _ => rfl, fun b b' k i h1 => ?_, fun b k hb => ?_, fun _ _ _ => rfl⟩
  · obtain ⟨fr, e⟩ := hide_lab Λ b; rw [e] at h1; simp at h1
  · simp only [L.hide, h.new b hb]
  · obtain ⟨fr, e⟩ := hide_lab Λ b; rw [e] at hb; simp at hb
  · obtain ⟨fr, e⟩ := hide_lab Λ b; rw [e] at h1; simp at h1
  · obtain ⟨fr, e⟩ := hide_lab Λ b; rw [e] at hb; simp at hb

/-- the labels behind a call that was handed no objects -/
def L.back (Λ Λ' : L) : L where
  lab := fun b => if b < Λ.w.heap.size then Λ.lab b else Λ'.lab b
  fro := Λ.fro
  nxt := Λ.nxt
  w := Λ'.w
  frf := Λ.frf

/-- A function that is handed no objects, called in any store. -/
theorem FnOk.pure {f : FuncId} {vs : List V} {x : V} {base : Nat} {s : List (Nat × AObj)} (h : FnOk P f vs ⟨[], 0⟩ { v := x }) (hb : V.bds 0 vs = true) (hx : x.bd 0 = true) : FnAt P f vs base s { v := x } := by
  refine ⟨h.1, by simp, fun Λ args hs _ _ hsz hargs => ?_⟩
  refine (h.2 Λ.hide args hs.hide rfl hsz fun j v y h1 h2 => (hargs j v y h1 h2).hide (V.bds_at hb j y h2)).mono fun e w' he => ?_
  obtain ⟨v, Λ', rfl, rfl, k1, k2, k3, k4⟩ := he
  simp only [asets, Nat.add_zero] at k2 k3
  have hnl : ∀ b, ∃ fr, Λ'.lab b = .fix fr := by
    intro b
    cases hl : Λ'.lab b with
    | fix fr => exact ⟨fr, rfl⟩
    | obj k => have := k3.bnd b k (.inl hl); omega
    | arr k n => have := k3.bnd b k (.inr ⟨n, hl⟩); omega
    | fob k i => have := k3.bndF b k (.inl ⟨i, hl⟩); omega
    | far k i n => have := k3.bndF b k (.inr ⟨i, n, hl⟩); omega
  have hold : ∀ b, b < Λ.w.heap.size → Λ'.lab b = Λ.hide.lab b ∧ Λ'.w.heap[b]? = Λ.w.heap[b]? := by
    intro b hb
    obtain ⟨fr, e⟩ := hide_lab Λ b
    obtain ⟨e1, e2⟩ := k1.fr.fix b hb fr e
    exact ⟨by rw [e1, e], e2⟩
  have hlt : ∀ {b : Nat}, b < Λ.w.heap.size → (Λ.back Λ').lab b = Λ.lab b := fun h => by simp [L.back, h]
  have hlow : ∀ {b : Nat} {x : Lab}, Λ.lab b = x → x ≠ .fix none → b < Λ.w.heap.size := by
    intro b x hl hx
    rcases Nat.lt_or_ge b Λ.w.heap.size with h | h
    · exact h
    · rw [hs.new b h] at hl; exact absurd hl.symm hx
  have hinv : ∀ b, (∀ fr, (Λ.back Λ').lab b ≠ .fix fr) → (Λ.back Λ').lab b = Λ.lab b := by
    intro b hb
    rcases Nat.lt_or_ge b Λ.w.heap.size with h | h
    · exact hlt h
    · exfalso
      obtain ⟨fr, e⟩ := hnl b
      exact hb fr (by simp [L.back, Nat.not_lt.2 h, e])
  have hinv' : ∀ {b : Nat} {x : Lab}, (Λ.back Λ').lab b = x → (∀ fr, x ≠ .fix fr) → Λ.lab b = x := by
    intro b x hl hx
    rw [← hl]; exact (hinv b (fun fr e => hx fr (hl.symm.trans e))).symm
  have hgo : ∀ {b : Nat} {x : Lab}, Λ.lab b = x → x ≠ .fix none → (Λ.back Λ').lab b = x ∧ (Λ.back Λ').w.heap[b]? = Λ.w.heap[b]? := by
    intro b x hl hx
    have hb := hlow hl hx
    exact ⟨by rw [hlt hb]; exact hl, (hold b hb).2⟩
  have hkp : Kp Λ (Λ.back Λ') := by
    refine ⟨⟨k1.fr.os, k1.fr.tape, k1.fr.output, k1.fr.size, fun b hb fr hl => ⟨by rw [hlt hb]; exact hl, (hold b hb).2⟩, fun b hb k fr hl o ho => ⟨by simp only [Rd, hlt hb, hl]; exact ho, cell?_heap (hold b hb).2⟩, fun b hb k i fr hl o ho => ⟨by simp only [Rd, hlt hb, hl]; exact ho, cell?_heap (hold b hb).2⟩⟩, Nat.le_refl _, fun b k _ hl => (hgo hl (by simp)).1, fun b k n _ hb hl _ => ⟨by rw [hlt hb]; exact hl, (hold b hb).2⟩, fun _ _ => Nat.le_refl _,
      fun b k i _ hl => ⟨(hgo hl (by simp)).1, fun N hN => by unfold rowSize at hN ⊢; rw [(hgo hl (by simp)).2]; exact hN⟩, fun b k i n _ hb hl _ => hgo hl (by simp), fun _ _ _ => Nat.le_refl _, fun b k i _ _ _ hl => hinv' hl (by simp)⟩
  have hF : FKeep Λ (Λ.back Λ') := ⟨fun b k i => ⟨fun hl => hinv' hl (by simp), fun hl => (hgo hl (by simp)).1⟩, fun b k i n => ⟨fun hl => hinv' hl (by simp), fun hl => (hgo hl (by simp)).1⟩, rfl, fun b k i hl => (hgo hl (by simp)).2, fun b k i n _ hl => (hgo hl (by simp)).2⟩
  refine ⟨v, Λ.back Λ', rfl, rfl, hkp, rfl, ?_, ?_, fun k hk _ _ => hk.keep hF (fun b hb => hk.obj b (hinv' hb (by simp))) (fun b n hb => hk.arr b n (hinv' hb (by simp))) hk.fro⟩
  · refine hs.step hkp rfl (fun k o ho => .inl ⟨ho, fun b hb => (hgo hb (by simp)).2, rfl⟩) (fun b b' k h1 h2 => hs.inj b b' k (hinv' h1 (by simp)) (hinv' h2 (by simp))) (fun b hb => ?_) (fun b k hb => ?_) hs.frz hF
    · have hsz : Λ.w.heap.size ≤ b := Nat.le_trans k1.fr.size hb
      have : (Λ.back Λ').lab b = Λ'.lab b := by simp [L.back, Nat.not_lt.2 hsz]
      rw [this]; exact k3.new b hb
    · rcases hb with hb | ⟨n, hb⟩
      · exact hs.bnd b k (.inl (hinv' hb (by simp)))
      · exact hs.bnd b k (.inr ⟨n, hinv' hb (by simp)⟩)
  · have hrep : ∀ {u : Value} {y : T}, RepT Λ'.lab Λ'.w u y → RepT (Λ.back Λ').lab (Λ.back Λ').w u y := by
      intro u y hy
      refine hy.keep fun b o _ _ hr => ⟨?_, rfl⟩
      rcases Nat.lt_or_ge b Λ.w.heap.size with h | h
      · unfold Rd; rw [hlt h]
        have : Rd Λ'.lab b o := hr
        unfold Rd at this; rw [(hold b h).1] at this
        exact hide_rd.1 this
      · have e : (Λ.back Λ').lab b = Λ'.lab b := by simp [L.back, Nat.not_lt.2 h]
        unfold Rd; rw [e]; exact hr
    clear hb h
    simp only at k4 ⊢
    generalize x = y at k4 hx
    induction k4 with
    | t h => exact .t (hrep h)
    | nils => exact .nils
    | own _ _ _ _ _ => simp [V.bd] at hx
    | slc _ _ _ => simp [V.bd] at hx
    | agg hs _ ih => exact .agg hs fun j v c h1 h2 => ih j v c h1 h2 (V.bds_at (by simpa [V.bd] using hx) j c h2)
    | tup hs _ ih => exact .tup hs fun j v c h1 h2 => ih j v c h1 h2 (V.bds_at (by simpa [V.bd] using hx) j c h2)
    | ptr _ _ => simp [V.bd] at hx
    | mp _ _ => simp [V.bd] at hx
    | @fn f vs cs hs h =>
      refine .fn hs fun j v c h1 h2 => ?_
      simp only [V.bd, List.all_eq_true] at hx
      have := hx c (List.mem_of_getElem? h2)
      simp at this
    | gd _ h' ih => exact .gd (fun hc => ih hc (by simpa [V.bd] using hx)) h'
    | top => exact .top
    | ub h h' => exact .ub h h'
    | fpt _ _ => simp [V.bd] at hx
    | gpt _ _ _ _ => simp [V.bd] at hx
    | gsl _ _ _ _ => simp [V.bd] at hx
    | fow _ _ _ _ _ => simp [V.bd] at hx

/-- names from m on out of sight -/
def L.hideFrom (Λ : L) (m : Nat) : L where
  lab := fun b => match Λ.lab b with
    | .obj k => if k < m then .obj k else .fix (some 0)
    | .arr k fr => if k < m then .arr k fr else .fix (some fr)
    | .fob k i => if k < m then .fob k i else .fix (some 0)
    | .far k i fr => if k < m then .far k i fr else .fix (some fr)
    | x => x
  fro := fun k => if k < m then Λ.fro k else 0
  nxt := m
  w := Λ.w
  frf := fun k i => if k < m then Λ.frf k i else 0

/-- is a block of a name from m on? -/
def L.high (Λ : L) (m b : Nat) : Bool :=
  match Λ.lab b with
  | .obj k => decide (m ≤ k)
  | .arr k _ => decide (m ≤ k)
  | .fob k _ => decide (m ≤ k)
  | .far k _ _ => decide (m ≤ k)
  | _ => false

theorem hf_low {Λ : L} {m b : Nat} (h : Λ.high m b = false) : (Λ.hideFrom m).lab b = Λ.lab b := by
  unfold L.high at h
  simp only [L.hideFrom]
  cases hl : Λ.lab b with
  | fix fr => rfl
  | obj k => rw [hl] at h; simp at h; simp [h]
  | arr k fr => rw [hl] at h; simp at h; simp [h]
  | fob k i => rw [hl] at h; simp at h; simp [h]
  | far k i fr => rw [hl] at h; simp at h; simp [h]
theorem hf_high {Λ : L} {m b : Nat} (h : Λ.high m b = true) : ∃ fr, (Λ.hideFrom m).lab b = .fix (some fr) ∧ ((∃ k, Λ.lab b = .obj k ∧ m ≤ k ∧ fr = 0) ∨ (∃ k, Λ.lab b = .arr k fr ∧ m ≤ k) ∨ (∃ k i, Λ.lab b = .fob k i ∧ m ≤ k ∧ fr = 0) ∨ ∃ k i, Λ.lab b = .far k i fr ∧ m ≤ k) := by
  unfold L.high at h
  simp only [L.hideFrom]
  cases hl : Λ.lab b with
  | fix fr => rw [hl] at h; simp at h
  | obj k => rw [hl] at h; simp at h; exact ⟨0, by simp; omega, .inl ⟨k, rfl, h, rfl⟩⟩
  | arr k fr => rw [hl] at h; simp at h; exact ⟨fr, by simp; omega, .inr (.inl ⟨k, rfl, h⟩)⟩
  | fob k i => rw [hl] at h; simp at h; exact ⟨0, by simp; omega, .inr (.inr (.inl ⟨k, i, rfl, h, rfl⟩))⟩
  | far k i fr => rw [hl] at h; simp at h; exact ⟨fr, by simp; omega, .inr (.inr (.inr ⟨k, i, rfl, h⟩))⟩
theorem hf_rd {Λ : L} {m b o : Nat} : Rd (Λ.hideFrom m).lab b o ↔ Rd Λ.lab b o := by
  cases hh : Λ.high m b with
  | false => unfold Rd; rw [hf_low hh]
  | true =>
    obtain ⟨fr, h1, h2⟩ := hf_high hh
    unfold Rd
    rcases h2 with ⟨k, e, _, rfl⟩ | ⟨k, e, _⟩ | ⟨k, i, e, _, rfl⟩ | ⟨k, i, e, _⟩ <;> rw [h1, e] <;> simp
theorem hf_obj {Λ : L} {m b k : Nat} (h : Λ.lab b = .obj k) (hk : k < m) : (Λ.hideFrom m).lab b = .obj k := by simp [L.hideFrom, h, hk]
theorem hf_arr {Λ : L} {m b k n : Nat} (h : Λ.lab b = .arr k n) (hk : k < m) : (Λ.hideFrom m).lab b = .arr k n := by simp [L.hideFrom, h, hk]
theorem hf_obj_inv {Λ : L} {m b k : Nat} (h : (Λ.hideFrom m).lab b = .obj k) : Λ.lab b = .obj k ∧ k < m := by
  simp only [L.hideFrom] at h
  cases hl : Λ.lab b with
  | fix fr => simp [hl] at h
  | obj j => simp only [hl] at h; split at h <;> simp_all
  | arr j n => simp only [hl] at h; split at h <;> simp_all
  | fob j n => simp only [hl] at h; split at h <;> simp_all
  | far j n q => simp only [hl] at h; split at h <;> simp_all
theorem hf_fob {Λ : L} {m b k i : Nat} (h : Λ.lab b = .fob k i) (hk : k < m) : (Λ.hideFrom m).lab b = .fob k i := by simp [L.hideFrom, h, hk]
theorem hf_far {Λ : L} {m b k i n : Nat} (h : Λ.lab b = .far k i n) (hk : k < m) : (Λ.hideFrom m).lab b = .far k i n := by simp [L.hideFrom, h, hk]
theorem hf_fob_inv {Λ : L} {m b k i : Nat} (h : (Λ.hideFrom m).lab b = .fob k i) : Λ.lab b = .fob k i ∧ k < m := by
  simp only [L.hideFrom] at h
  cases hl : Λ.lab b with
  | fix fr => simp [hl] at h
  | obj j => simp only [hl] at h; split at h <;> simp_all
  | arr j n => simp only [hl] at h; split at h <;> simp_all
  | fob j n => simp only [hl] at h; split at h <;> simp_all
  | far j n q => simp only [hl] at h; split at h <;> simp_all
theorem hf_far_inv {Λ : L} {m b k i n : Nat} (h : (Λ.hideFrom m).lab b = .far k i n) : Λ.lab b = .far k i n ∧ k < m := by
  simp only [L.hideFrom] at h
  cases hl : Λ.lab b with
  | fix fr => simp [hl] at h
  | obj j => simp only [hl] at h; split at h <;> simp_all
  | arr j n => simp only [hl] at h; split at h <;> simp_all
  | fob j n => simp only [hl] at h; split at h <;> simp_all
  | far j n q => simp only [hl] at h; split at h <;> simp_all
theorem hf_arr_inv {Λ : L} {m b k n : Nat} (h : (Λ.hideFrom m).lab b = .arr k n) : Λ.lab b = .arr k n ∧ k < m := by
  simp only [L.hideFrom] at h
  cases hl : Λ.lab b with
  | fix fr => simp [hl] at h
  | obj j => simp only [hl] at h; split at h <;> simp_all
  | arr j n => simp only [hl] at h; split at h <;> simp_all
  | fob j n => simp only [hl] at h; split at h <;> simp_all
  | far j n q => simp only [hl] at h; split at h <;> simp_all

theorem RepT.hf {Λ : L} {m : Nat} {v : Value} {x : T} (h : RepT Λ.lab Λ.w v x) : RepT (Λ.hideFrom m).lab (Λ.hideFrom m).w v x := h.keep fun _ _ _ _ hr => ⟨hf_rd.2 hr, rfl⟩

theorem RelV.hf {Λ : L} {m : Nat} {v : Value} {x : V} (h : RelV Λ v x) (hb : x.bd m = true) : RelV (Λ.hideFrom m) v x := by
  induction h with
  | t h => exact .t h.hf
  | nils => exact .nils
  | @own v k sz xs h hsz hl hn ho =>
    have hk : k < m := by simpa [V.bd] using hb
    have hf : (Λ.hideFrom m).fro k = Λ.fro k := by simp [L.hideFrom, hk]
    refine .own h.hf hsz hk (by rw [hf]; exact hn) fun he => ?_
    rcases ho (by rw [← hf]; exact he) with ho | ⟨b, cap, arr, e, hv, hb', hh, hc, hn'⟩
    · exact .inl ho
    · exact .inr ⟨b, cap, arr, e, hv, hf_arr hb' hk, hh, hc, hn'⟩
  | @slc b k off len cap sz hl hc h => have hk : k < m := by simpa [V.bd] using hb
                                       exact .slc hk hc (hf_obj h hk)
  | agg hs _ ih => exact .agg hs fun j v c h1 h2 => ih j v c h1 h2 (V.bds_at (by simpa [V.bd] using hb) j c h2)
  | tup hs _ ih => exact .tup hs fun j v c h1 h2 => ih j v c h1 h2 (V.bds_at (by simpa [V.bd] using hb) j c h2)
  | @ptr b k off hl h => have hk : k < m := by simpa [V.bd] using hb
                         exact .ptr hk (hf_obj h hk)
  | @mp b k hl h => have hk : k < m := by simpa [V.bd] using hb
                    exact .mp hk (hf_obj h hk)
  | fn hs h =>
    refine .fn hs fun j v c h1 h2 => ?_
    obtain ⟨b, e1, e2, e3⟩ := h j v c h1 h2
    have hk : c.1 < m := by
      simp only [V.bd, List.all_eq_true, decide_eq_true_eq] at hb
      exact hb c (List.mem_of_getElem? h2)
    exact ⟨b, e1, hf_obj e2 hk, hk⟩
  | gd _ h' ih => exact .gd (fun hc => ih hc (by simpa [V.bd] using hb)) h'
  | top => exact .top
  | ub h h' => exact .ub h h'
  | @fpt b k i off hl h => have hk : k < m := by simpa [V.bd] using hb
                           exact .fpt hk (hf_fob h hk)
  | @gpt v k ver off hv hl hn h =>
    have hk : k < m := by simpa [V.bd] using hb
    have hf : (Λ.hideFrom m).frf k 0 = Λ.frf k 0 := by simp [L.hideFrom, hk]
    refine .gpt hv hk (by rw [hf]; exact hn) fun he => ?_
    obtain ⟨b, e1, i, e2, e3⟩ := h (by rw [← hf]; exact he)
    exact ⟨b, e1, i, hf_fob e2 hk, fun b' i' h' => e3 b' i' (hf_fob_inv h').1⟩
  | @gsl v k ver off len sz hv hl hn h =>
    have hk : k < m := by simpa [V.bd] using hb
    have hf : (Λ.hideFrom m).frf k 0 = Λ.frf k 0 := by simp [L.hideFrom, hk]
    refine .gsl hv hk (by rw [hf]; exact hn) fun he => ?_
    rcases h (by rw [← hf]; exact he) with h | ⟨b, cap, N, hv, hc, ⟨i, e2, e3⟩, hN, he'⟩
    · exact .inl h
    · exact .inr ⟨b, cap, N, hv, hc, ⟨i, hf_fob e2 hk, fun b' i' h' => e3 b' i' (hf_fob_inv h').1⟩, hN, he'⟩
  | @fow v k i sz xs h hsz hl hn ho =>
    have hk : k < m := by simpa [V.bd] using hb
    have hf : (Λ.hideFrom m).frf k i = Λ.frf k i := by simp [L.hideFrom, hk]
    refine .fow h.hf hsz hk (by rw [hf]; exact hn) fun he => ?_
    rcases ho (by rw [← hf]; exact he) with ho | ⟨b, cap, arr, e, hv, hb', hh, hc, hn'⟩
    · exact .inl ho
    · exact .inr ⟨b, cap, arr, e, hv, hf_far hb' hk, hh, hc, hn'⟩

theorem RelS.hf {Λ : L} {m : Nat} {sto : List (Nat × AObj)} (h : RelS Λ ⟨sto, Λ.nxt⟩) (hs : stoBd m sto = true) : RelS (Λ.hideFrom m) ⟨sto, m⟩ := by
  refine ⟨fun k o hk => ?_, fun b b' k h1 h2 => h.inj b b' k (hf_obj_inv h1).1 (hf_obj_inv h2).1, fun b hb => ?_, fun b k hb => ?_, fun k hk => ?_, fun b b' k i h1 h2 => h.injF b b' k i (hf_fob_inv h1).1 (hf_fob_inv h2).1, fun b k hb => ?_, fun k i hk => ?_⟩
  · obtain ⟨h1, h2⟩ := stoBd_at hs k o hk
    refine ⟨h1, ?_⟩
    have hr := (h.sto k o hk).2
    cases o with
    | cells cs =>
      obtain ⟨b, arr, e, e1, e2, e3, e4⟩ := hr
      exact ⟨b, arr, e, hf_obj e1 h1, e2, e3, fun j v c a1 a2 => (e4 j v c a1 a2).hf (V.bds_at (by simpa [AObj.bd] using h2) j c a2)⟩
    | map kag es sx =>
      obtain ⟨b, ents, clock, e1, e2, e3⟩ := hr
      exact ⟨b, ents, clock, hf_obj e1 h1, e2, e3.keep (fun _ _ h => h.hf) (fun i kv v hi hv => hv.hf (V.bds_at (by simpa [AObj.bd] using h2) i kv.2 (by simp [hi])))⟩
    | arr n => unfold RelO at *; simp [L.hideFrom, h1, hr]
    | iter q s seen c =>
      have hq : q < m := by simpa [AObj.bd] using h2
      obtain ⟨b, bm, e1, e2, e3, e4⟩ := hr
      exact ⟨b, bm, hf_obj e1 h1, e2, hf_obj e3 hq, hq⟩
    | gro r cs =>
      obtain ⟨h0, hr⟩ := hr
      refine ⟨by simp [L.hideFrom, h1, h0], ?_⟩
      rcases hr with ⟨e1, e2⟩ | ⟨b, arr, e, ⟨i, e1, e1'⟩, e2, e3, e4⟩
      · exact .inl ⟨e1, fun b i hb => e2 b i (hf_fob_inv hb).1⟩
      · exact .inr ⟨b, arr, e, ⟨i, hf_fob e1 h1, fun b' i' h' => e1' b' i' (hf_fob_inv h').1⟩, e2, e3, fun j v c a1 a2 => (e4 j v c a1 a2).hf (V.bds_at (by simpa [AObj.bd] using h2) j c a2)⟩
    | fobs os =>
      obtain ⟨h0, hr⟩ := hr
      refine ⟨fun b i hbi => h0 b i (hf_fob_inv hbi).1, fun i cs hi => ?_⟩
      obtain ⟨b, arr, e, e1, e2, e3, e4⟩ := hr i cs hi
      have hbs : V.bds m cs = true := by
        have := h2; simp only [AObj.bd, List.all_eq_true] at this
        exact this cs (List.mem_of_getElem? hi)
      exact ⟨b, arr, e, hf_fob e1 h1, e2, e3, fun j v c a1 a2 => (e4 j v c a1 a2).hf (V.bds_at hbs j c a2)⟩
    | farr ns => intro i; have := hr i; simpa [L.hideFrom, h1] using this
    | memo kag I =>
      obtain ⟨b, ents, clock, e1, e2, e3, e4, e5⟩ := hr
      refine ⟨b, ents, clock, hf_obj e1 h1, e2, e3, e4, fun i e hi => ?_⟩
      obtain ⟨cs, v, g1, g2, g3⟩ := e5 i e hi
      exact ⟨cs, v, g1.keep fun _ _ h => h.hf, g2.hf, g3⟩
  · simp only [L.hideFrom, h.new b hb]
  · rcases hb with hb | ⟨n, hb⟩
    · exact (hf_obj_inv hb).2
    · exact (hf_arr_inv hb).2
  · have hk' : m ≤ k := hk
    simp [L.hideFrom]; omega
  · rcases hb with ⟨i, hb⟩ | ⟨i, n, hb⟩
    · exact (hf_fob_inv hb).2
    · exact (hf_far_inv hb).2
  · have hk' : m ≤ k := hk
    simp [L.hideFrom]; omega

end
end Go.GB


/-
  GbW: the rules as a walk uses them.
-/
namespace Go.GB
section
variable {P : Program} {n m : Nat} {st : St} {Q : AExit → St → Prop}

theorem Sat.ite {z : Ar} {a b : ACode} {t : Bool} (hz : z.v st = .t (.bool t)) (h1 : t = true → Sat P n m a st Q) (h2 : t = false → Sat P n m b st Q) : Sat P n m (.cond z a b) st Q := by
  refine Sat.cond hz ?_
  cases t with
  | true => exact h1 rfl
  | false => exact h2 rfl

/-- a call of a function that is handed no objects and hands none back -/
theorem callPure {f : FuncId} {vs : List V} {x : V} {base : Nat} {sto : List (Nat × AObj)} {K : Out → Prop} (h : FnOk P f vs ⟨[], 0⟩ { v := x }) (hb : V.bds 0 vs = true) (hx : x.bd 0 = true) (hk : K { v := x }) : FnEv P f vs base sto K :=
  ⟨{ v := x }, by simp only [Bool.false_eq_true, if_false]; exact fun s => h.pure hb hx, hk⟩

theorem EndOk.pure {rs : List ARes} {x r : V} (h : ressV st rs = some r) (hr : LeR 0 st.s r x) : EndOk ⟨[], 0⟩ { v := x } rs .ret st := ⟨r, h, Nat.zero_le _, hr, .le trivial⟩
/-- the end of a function that is handed no objects -/
theorem EndOk.go {rs : List ARes} {x : V} (h : match ressV st rs with | some r => LeR 0 st.s r x | none => False) : EndOk ⟨[], 0⟩ { v := x } rs .ret st := by
  cases hr : ressV st rs with
  | none => rw [hr] at h; exact h.elim
  | some r => rw [hr] at h; exact ⟨r, hr, Nat.zero_le _, h, .le trivial⟩

/-- the end of a function that reads objects and leaves them as they are -/
theorem EndOk.same {s : S} {rs : List ARes} {x : V} {rd : Bool} (hsto : st.s.sto = s.sto) (hn : s.nxt ≤ st.s.nxt) (hs : stoBd s.nxt s.sto = true) (h : match ressV st rs with | some r => LeR s.nxt st.s r x | none => False) : EndOk s { v := x, rd := rd } rs .ret st := by
  cases hr : ressV st rs with
  | none => rw [hr] at h; exact h.elim
  | some r => rw [hr] at h; exact ⟨r, hr, hn, h, .same fun k o hk => ⟨by rw [hsto]; exact hk, stoBd_at hs k o hk⟩⟩

theorem LeR.t {m : Nat} {s : S} {x y : T} (h : x = y) : LeR m s (.t x) (.t y) := .le (.tEq h)
theorem LeR.own {m : Nat} {s : S} {k sz : Nat} {xs ys : List (List T)} (h : xs = ys) : LeR m s (.own k sz xs) (.t (.lst ys)) := .le (h ▸ .ownT)
theorem LeR.nil {m : Nat} {s : S} {ys : List (List T)} (h : [] = ys) : LeR m s .nils (.t (.lst ys)) := .le (h ▸ .nilT)
theorem LeR.tup2 {m : Nat} {s : S} {a b c d : V} (h1 : LeR m s a c) (h2 : LeR m s b d) : LeR m s (.tup [a, b]) (.tup [c, d]) := .tup (.cons h1 (.cons h2 .nil))
end

theorem wrap64 {x : Int} (h1 : -9223372036854775808 ≤ x) (h2 : x ≤ 9223372036854775807) : IntKind.i64.wrap x = x := by rw [IntKind.wrap_i64]; omega

theorem drop_at {α : Type} {l : List α} {i : Nat} {x : α} {r : List α} (h : l.drop i = x :: r) : l[i]? = some x ∧ l.drop (i + 1) = r ∧ i < l.length := by
  have h1 : l[i]? = some x := by
    have := List.getElem?_drop (xs := l) (i := i) (j := 0)
    rw [h] at this; simpa using this.symm
  refine ⟨h1, ?_, (List.getElem?_eq_some_iff.1 h1).1⟩
  rw [← List.drop_drop, h]; rfl
theorem drop_end {α : Type} {l : List α} {i : Nat} (h : l.drop i = []) : l.length ≤ i := List.drop_eq_nil_iff.1 h

end Go.GB


/-
  GbY: calls of functions that are handed objects: the whole store goes along.
-/
namespace Go.GB
section
variable {P : Program}

/-- the labels behind a call that was handed the names below m -/
def L.backFrom (Λ : L) (m m' : Nat) (Λ' : L) : L where
  lab := fun b => if Λ.high m b then Λ.lab b else Λ'.lab b
  fro := fun k => if k < m' then Λ'.fro k else Λ.fro k
  nxt := Λ.nxt
  w := Λ'.w
  frf := fun k i => if k < m' then Λ'.frf k i else Λ.frf k i

theorem FnOk.same {f : FuncId} {vs : List V} {m : Nat} {sto : List (Nat × AObj)} {out : Out} (h : FnOk P f vs ⟨sto, m⟩ out) (hrd : out.rd = true) (hb : V.bds m vs = true) (hs : stoBd m sto = true) (hob : ∀ k o, (k, o) ∈ out.ob → aget sto k ≠ none ∨ (m ≤ k ∧ k < m + out.n)) : FnAt P f vs m sto out := by
  refine ⟨h.1, hob, fun Λ args hr hle hfree hsz hargs => ?_⟩
  refine (h.2 (Λ.hideFrom m) args (hr.hf hs) rfl hsz fun j v y h1 h2 => (hargs j v y h1 h2).hf (V.bds_at hb j y h2)).mono fun e w' he => ?_
  obtain ⟨v, Λ', rfl, rfl, k1, k2, k3, k4⟩ := he
  simp only at k2 k3
  have hlt : ∀ {b : Nat}, Λ.high m b = true → b < Λ.w.heap.size := by
    intro b hh
    rcases Nat.lt_or_ge b Λ.w.heap.size with h | h
    · exact h
    · unfold L.high at hh; rw [hr.new b h] at hh; simp at hh
  have hH : ∀ {b : Nat}, Λ.high m b = true → (Λ.backFrom m (m + out.n) Λ').lab b = Λ.lab b := fun h => by simp [L.backFrom, h]
  have hL : ∀ {b : Nat}, Λ.high m b = false → (Λ.backFrom m (m + out.n) Λ').lab b = Λ'.lab b := fun h => by simp [L.backFrom, h]
  have hheap : ∀ {b : Nat}, Λ.high m b = true → ∃ fr, Λ'.lab b = .fix (some fr) ∧ Λ'.w.heap[b]? = Λ.w.heap[b]? ∧ ((∃ k, Λ.lab b = .obj k ∧ m ≤ k ∧ fr = 0) ∨ (∃ k, Λ.lab b = .arr k fr ∧ m ≤ k) ∨ (∃ k i, Λ.lab b = .fob k i ∧ m ≤ k ∧ fr = 0) ∨ ∃ k i, Λ.lab b = .far k i fr ∧ m ≤ k) := by
    intro b hh
    obtain ⟨fr, e1, e2⟩ := hf_high hh
    obtain ⟨g1, g2⟩ := k1.fr.fix b (hlt hh) _ e1
    exact ⟨fr, g1, g2, e2⟩
  have hlow : ∀ {b k : Nat}, k < m → (Λ.lab b = .obj k ∨ ∃ n, Λ.lab b = .arr k n) → Λ.high m b = false := by
    intro b k hk hb
    unfold L.high
    rcases hb with hb | ⟨n, hb⟩ <;> rw [hb] <;> simp <;> omega
  have hkp : Kp Λ (Λ.backFrom m (m + out.n) Λ') := by
    refine ⟨⟨k1.fr.os, k1.fr.tape, k1.fr.output, k1.fr.size, fun b hb fr hl => ?_, fun b hb k fr hl o ho => ?_, fun b hb k i fr hl o ho => ?_⟩, Nat.le_refl _, fun b k _ hl => ?_, fun b k n _ hb hl hf => ?_, fun k hk => ?_, fun b k i _ hl => ?_, fun b k i n _ hb hl hf => ?_, fun k i hk => ?_, fun b k i hk hp hf hl => ?_⟩
    · have hh : Λ.high m b = false := by unfold L.high; rw [hl]
      obtain ⟨g1, g2⟩ := k1.fr.fix b hb fr (by rw [hf_low hh]; exact hl)
      exact ⟨by rw [hL hh]; exact g1, g2⟩
    · cases hh : Λ.high m b with
      | true =>
        obtain ⟨fr', g1, g2, g3⟩ := hheap hh
        exact ⟨by unfold Rd; rw [hH hh, hl]; exact ho, cell?_heap g2⟩
      | false =>
        obtain ⟨g1, g2⟩ := k1.fr.arr b hb k fr (by rw [hf_low hh]; exact hl) o ho
        exact ⟨by unfold Rd; rw [hL hh]; exact g1, g2⟩
    · cases hh : Λ.high m b with
      | true =>
        obtain ⟨fr', g1, g2, g3⟩ := hheap hh
        exact ⟨by unfold Rd; rw [hH hh, hl]; exact ho, cell?_heap g2⟩
      | false =>
        obtain ⟨g1, g2⟩ := k1.fr.far b hb k i fr (by rw [hf_low hh]; exact hl) o ho
        exact ⟨by unfold Rd; rw [hL hh]; exact g1, g2⟩
    · cases hh : Λ.high m b with
      | true => rw [hH hh]; exact hl
      | false =>
        have hk : k < m := by unfold L.high at hh; rw [hl] at hh; simpa using hh
        rw [hL hh]; exact k1.obj b k hk (hf_obj hl hk)
    · cases hh : Λ.high m b with
      | true =>
        obtain ⟨fr', g1, g2, g3⟩ := hheap hh
        exact ⟨by rw [hH hh]; exact hl, g2⟩
      | false =>
        have hk : k < m := by unfold L.high at hh; rw [hl] at hh; simpa using hh
        have e1 : (Λ.hideFrom m).fro k = Λ.fro k := by simp [L.hideFrom, hk]
        have e2 : (Λ.backFrom m (m + out.n) Λ').fro k = Λ'.fro k := by simp [L.backFrom]; omega
        obtain ⟨g1, g2⟩ := k1.own b k n hk hb (hf_arr hl hk) (by rw [← e2, hf, e1])
        exact ⟨by rw [hL hh]; exact g1, g2⟩
    · simp only [L.backFrom]
      by_cases h1 : k < m
      · have := k1.fro k h1
        have e1 : (Λ.hideFrom m).fro k = Λ.fro k := by simp [L.hideFrom, h1]
        rw [if_pos (by omega)]; omega
      · by_cases h2 : k < m + out.n
        · rw [if_pos h2, (hfree k (by omega) h2).2.1.fro]; omega
        · rw [if_neg h2]; exact Nat.le_refl _
    · cases hh : Λ.high m b with
      | true =>
        obtain ⟨fr', g1, g2, g3⟩ := hheap hh
        exact ⟨by rw [hH hh]; exact hl, fun N hN => by unfold rowSize at hN ⊢; show (match Λ'.w.heap[b]? with | some (.cells arr _ _) => some arr.size | _ => none) = _; rw [g2]; exact hN⟩
      | false =>
        have hk : k < m := by unfold L.high at hh; rw [hl] at hh; simpa using hh
        obtain ⟨g1, g2⟩ := k1.fob b k i hk (hf_fob hl hk)
        exact ⟨by rw [hL hh]; exact g1, g2⟩
    · cases hh : Λ.high m b with
      | true =>
        obtain ⟨fr', g1, g2, g3⟩ := hheap hh
        exact ⟨by rw [hH hh]; exact hl, g2⟩
      | false =>
        have hk : k < m := by unfold L.high at hh; rw [hl] at hh; simpa using hh
        have e1 : (Λ.hideFrom m).frf k i = Λ.frf k i := by simp [L.hideFrom, hk]
        have e2 : (Λ.backFrom m (m + out.n) Λ').frf k i = Λ'.frf k i := by simp [L.backFrom]; omega
        obtain ⟨g1, g2⟩ := k1.far b k i n hk hb (hf_far hl hk) (by rw [← e2, hf, e1])
        exact ⟨by rw [hL hh]; exact g1, g2⟩
    · simp only [L.backFrom]
      by_cases h1 : k < m
      · have := k1.frf k i h1
        have e1 : (Λ.hideFrom m).frf k i = Λ.frf k i := by simp [L.hideFrom, h1]
        rw [if_pos (by omega)]; omega
      · by_cases h2 : k < m + out.n
        · rw [if_pos h2, (hfree k (by omega) h2).2.1.frf]; omega
        · rw [if_neg h2]; exact Nat.le_refl _
    · cases hh : Λ.high m b with
      | true => rw [hH hh] at hl; exact hl
      | false =>
        rw [hL hh] at hl
        have hkb := k3.bndF b k (.inl ⟨i, hl⟩)
        rcases Nat.lt_or_ge k m with hkm | hkm
        · have e1 : (Λ.hideFrom m).frf k 0 = Λ.frf k 0 := by simp [L.hideFrom, hkm]
          have e2 : (Λ.backFrom m (m + out.n) Λ').frf k 0 = Λ'.frf k 0 := by simp [L.backFrom]; omega
          exact (hf_fob_inv (k1.fobN b k i hkm (by rw [e1]; exact hp) (by rw [← e2, hf, e1]) hl)).1
        · have := (hfree k hkm (by omega)).2.1.frf 0; omega
  -- values of the callee, seen again by the caller
  have hobj : ∀ {b k : Nat}, Λ'.lab b = .obj k → (Λ.backFrom m (m + out.n) Λ').lab b = .obj k := by
    intro b k hb
    cases hh : Λ.high m b with
    | true => obtain ⟨fr, g1, _⟩ := hheap hh; rw [g1] at hb; simp at hb
    | false => rw [hL hh]; exact hb
  have harr : ∀ {b k n : Nat}, Λ'.lab b = .arr k n → (Λ.backFrom m (m + out.n) Λ').lab b = .arr k n := by
    intro b k n hb
    cases hh : Λ.high m b with
    | true => obtain ⟨fr, g1, _⟩ := hheap hh; rw [g1] at hb; simp at hb
    | false => rw [hL hh]; exact hb
  have hfob : ∀ {b k i : Nat}, Λ'.lab b = .fob k i → (Λ.backFrom m (m + out.n) Λ').lab b = .fob k i := by
    intro b k i hb
    cases hh : Λ.high m b with
    | true => obtain ⟨fr, g1, _⟩ := hheap hh; rw [g1] at hb; simp at hb
    | false => rw [hL hh]; exact hb
  have hfar : ∀ {b k i n : Nat}, Λ'.lab b = .far k i n → (Λ.backFrom m (m + out.n) Λ').lab b = .far k i n := by
    intro b k i n hb
    cases hh : Λ.high m b with
    | true => obtain ⟨fr, g1, _⟩ := hheap hh; rw [g1] at hb; simp at hb
    | false => rw [hL hh]; exact hb
  have hrep : ∀ {u : Value} {y : T}, RepT Λ'.lab Λ'.w u y → RepT (Λ.backFrom m (m + out.n) Λ').lab (Λ.backFrom m (m + out.n) Λ').w u y := by
    intro u y hy
    refine hy.keep fun b o _ _ hrd => ⟨?_, rfl⟩
    cases hh : Λ.high m b with
    | true =>
      obtain ⟨fr, g1, _, g3⟩ := hheap hh
      unfold Rd at hrd ⊢
      rw [g1] at hrd
      rw [hH hh]
      rcases g3 with ⟨k, e, _, rfl⟩ | ⟨k, e, _⟩ | ⟨k, i, e, _, rfl⟩ | ⟨k, i, e, _⟩
      · omega
      · rw [e]; exact hrd
      · omega
      · rw [e]; exact hrd
    | false => unfold Rd; rw [hL hh]; exact hrd
  have hfobI : ∀ {b k i : Nat}, k < m + out.n → (Λ.backFrom m (m + out.n) Λ').lab b = .fob k i → Λ'.lab b = .fob k i := by
    intro b k i hk hb
    cases hh : Λ.high m b with
    | true =>
      rw [hH hh] at hb
      have hge : m ≤ k := by unfold L.high at hh; rw [hb] at hh; simpa using hh
      exact absurd hb ((hfree k hge hk).2.1.fob b i)
    | false => rw [hL hh] at hb; exact hb
  have hcur : ∀ {b k : Nat}, k < m + out.n → GCur Λ'.lab k b → GCur (Λ.backFrom m (m + out.n) Λ').lab k b := by
    rintro b k hk ⟨i, e1, e2⟩
    exact ⟨i, hfob e1, fun b' i' h' => e2 b' i' (hfobI hk h')⟩
  have hfrf : ∀ {k i : Nat}, k < Λ'.nxt → (Λ.backFrom m (m + out.n) Λ').frf k i = Λ'.frf k i := by
    intro k i hk; rw [k2] at hk; simp [L.backFrom, hk]
  have hfro : ∀ {k : Nat}, k < Λ'.nxt → (Λ.backFrom m (m + out.n) Λ').fro k = Λ'.fro k := by
    intro k hk; rw [k2] at hk; simp [L.backFrom, hk]
  have hval : ∀ {u : Value} {y : V}, RelV Λ' u y → RelV (Λ.backFrom m (m + out.n) Λ') u y := by
    intro u y hy
    induction hy with
    | t h => exact .t (hrep h)
    | nils => exact .nils
    | @own v k sz xs h hsz hl hn ho =>
      refine .own (hrep h) hsz (by show k < Λ.nxt; omega) (by rw [hfro hl]; exact hn) fun he => ?_
      rcases ho (by rw [← hfro hl]; exact he) with ho | ⟨b, cap, arr, e, hv, hb', hh, hc, hn'⟩
      · exact .inl ho
      · exact .inr ⟨b, cap, arr, e, hv, harr hb', hh, hc, hn'⟩
    | slc hl hc h => exact .slc (by show _ < Λ.nxt; omega) hc (hobj h)
    | agg hs _ ih => exact .agg hs ih
    | tup hs _ ih => exact .tup hs ih
    | ptr hl h => exact .ptr (by show _ < Λ.nxt; omega) (hobj h)
    | mp hl h => exact .mp (by show _ < Λ.nxt; omega) (hobj h)
    | fn hs h => exact .fn hs fun j v c h1 h2 => let ⟨b, e1, e2, e3⟩ := h j v c h1 h2; ⟨b, e1, hobj e2, by show _ < Λ.nxt; omega⟩
    | gd _ h' ih => exact .gd ih h'
    | top => exact .top
    | ub h h' => exact .ub h h'
    | fpt hl h => exact .fpt (by show _ < Λ.nxt; omega) (hfob h)
    | gpt hv hl hn h =>
      refine .gpt hv (by show _ < Λ.nxt; omega) (by rw [hfrf hl]; exact hn) fun he => ?_
      obtain ⟨b, e1, e2⟩ := h (by rw [← hfrf hl]; exact he)
      exact ⟨b, e1, hcur (by omega) e2⟩
    | gsl hv hl hn h =>
      refine .gsl hv (by show _ < Λ.nxt; omega) (by rw [hfrf hl]; exact hn) fun he => ?_
      rcases h (by rw [← hfrf hl]; exact he) with h | ⟨b, cap, N, hv, hc, e2, hN, he'⟩
      · exact .inl h
      · exact .inr ⟨b, cap, N, hv, hc, hcur (by omega) e2, hN, he'⟩
    | fow h hsz hl hn ho =>
      refine .fow (hrep h) hsz (by show _ < Λ.nxt; omega) (by rw [hfrf hl]; exact hn) fun he => ?_
      rcases ho (by rw [← hfrf hl]; exact he) with ho | ⟨b, cap, arr, e, hv, hb', hh, hc, hn'⟩
      · exact .inl ho
      · exact .inr ⟨b, cap, arr, e, hv, hfar hb', hh, hc, hn'⟩
  have hname : ∀ {b k : Nat}, Λ.high m b = true → ((Λ.backFrom m (m + out.n) Λ').lab b = .obj k ∨ ∃ n, (Λ.backFrom m (m + out.n) Λ').lab b = .arr k n) → m + out.n ≤ k ∧ (Λ.lab b = .obj k ∨ ∃ n, Λ.lab b = .arr k n) := by
    intro b k hh hb
    rw [hH hh] at hb
    refine ⟨?_, hb⟩
    have hge : m ≤ k := by unfold L.high at hh; rcases hb with hb | ⟨n, hb⟩ <;> rw [hb] at hh <;> simpa using hh
    rcases Nat.lt_or_ge k (m + out.n) with h | h
    · have := (hfree k hge h).2.1
      rcases hb with hb | ⟨n, hb⟩
      · exact absurd hb (this.obj b)
      · exact absurd hb (this.arr b n)
    · exact h
  have hlowname : ∀ {b k : Nat}, Λ.high m b = false → ((Λ.backFrom m (m + out.n) Λ').lab b = .obj k ∨ ∃ n, (Λ.backFrom m (m + out.n) Λ').lab b = .arr k n) → k < m + out.n ∧ (Λ'.lab b = .obj k ∨ ∃ n, Λ'.lab b = .arr k n) := by
    intro b k hh hb
    rw [hL hh] at hb
    have := k3.bnd b k hb
    exact ⟨by omega, hb⟩
  refine ⟨v, Λ.backFrom m (m + out.n) Λ', rfl, rfl, hkp, rfl, ?_, hval k4, fun k hk hn hcase => ?_⟩
  · refine ⟨fun k o ho => ?_, fun b b' k h1 h2 => ?_, fun b hb => ?_, fun b k hb => ?_, fun k hk => ?_, fun b b' k i h1 h2 => ?_, fun b k hb => ?_, fun k i hk => ?_⟩
    · obtain ⟨g1, g2⟩ := k3.sto k o ho
      refine ⟨by show k < Λ.nxt; omega, ?_⟩
      cases o with
      | cells cs =>
        obtain ⟨b, arr, e, e1, e2, e3, e4⟩ := g2
        exact ⟨b, arr, e, hobj e1, e2, e3, fun j v c a1 a2 => hval (e4 j v c a1 a2)⟩
      | map kag es sx =>
        obtain ⟨b, ents, clock, e1, e2, e3⟩ := g2
        exact ⟨b, ents, clock, hobj e1, e2, e3.keep (fun _ _ h => hrep h) (fun _ _ _ _ h => hval h)⟩
      | arr n => unfold RelO at *; rw [hfro g1]; exact g2
      | iter q s seen c =>
        obtain ⟨b, bm, e1, e2, e3, e4⟩ := g2
        exact ⟨b, bm, hobj e1, e2, hobj e3, by show q < Λ.nxt; omega⟩
      | gro ver cs =>
        obtain ⟨q0, q⟩ := g2
        refine ⟨by rw [hfrf g1]; exact q0, ?_⟩
        rcases q with ⟨e1, e2⟩ | ⟨b, arr, e, e1, e2, e3, e4⟩
        · exact .inl ⟨e1, fun b i hb => e2 b i (hfobI (by omega) hb)⟩
        · exact .inr ⟨b, arr, e, hcur (by omega) e1, e2, e3, fun j v c a1 a2 => hval (e4 j v c a1 a2)⟩
      | fobs os =>
        obtain ⟨q0, q⟩ := g2
        refine ⟨fun b i hb => q0 b i (hfobI (by omega) hb), fun i cs hi => ?_⟩
        obtain ⟨b, arr, e, e1, e2, e3, e4⟩ := q i cs hi
        exact ⟨b, arr, e, hfob e1, e2, e3, fun j v c a1 a2 => hval (e4 j v c a1 a2)⟩
      | farr ns => exact fun i => (hfrf g1).trans (g2 i)
      | memo kag I =>
        obtain ⟨b, ents, clock, e1, e2, e3, e4, e5⟩ := g2
        refine ⟨b, ents, clock, hobj e1, e2, e3, e4, fun i e hi => ?_⟩
        obtain ⟨cs, v, q1, q2, q3⟩ := e5 i e hi
        exact ⟨cs, v, q1.keep fun _ _ h => hrep h, hrep q2, q3⟩
    · cases hh : Λ.high m b with
      | true =>
        obtain ⟨q1, q2⟩ := hname hh (.inl h1)
        cases hh' : Λ.high m b' with
        | true =>
          rw [hH hh] at h1; rw [hH hh'] at h2
          exact hr.inj b b' k h1 h2
        | false => have := (hlowname hh' (.inl h2)).1; omega
      | false =>
        have q := (hlowname hh (.inl h1)).1
        cases hh' : Λ.high m b' with
        | true => have := (hname hh' (.inl h2)).1; omega
        | false => rw [hL hh] at h1; rw [hL hh'] at h2; exact k3.inj b b' k h1 h2
    · have hge : Λ.w.heap.size ≤ b := Nat.le_trans k1.fr.size hb
      have hh : Λ.high m b = false := by unfold L.high; rw [hr.new b hge]
      rw [hL hh]; exact k3.new b hb
    · show k < Λ.nxt
      cases hh : Λ.high m b with
      | true => exact hr.bnd b k (hname hh hb).2
      | false => have := (hlowname hh hb).1; omega
    · have hk' : Λ.nxt ≤ k := hk
      simp only [L.backFrom]
      rw [if_neg (by omega)]; exact hr.frz k hk'
    · cases hh : Λ.high m b with
      | true =>
        cases hh' : Λ.high m b' with
        | true => rw [hH hh] at h1; rw [hH hh'] at h2; exact hr.injF b b' k i h1 h2
        | false =>
          rw [hL hh'] at h2
          have hkb := k3.bndF b' k (.inl ⟨i, h2⟩)
          have h1' := hfobI (by omega) h1
          exact k3.injF b b' k i h1' h2
      | false =>
        rw [hL hh] at h1
        have hkb := k3.bndF b k (.inl ⟨i, h1⟩)
        exact k3.injF b b' k i h1 (hfobI (by omega) h2)
    · show k < Λ.nxt
      cases hh : Λ.high m b with
      | true => rw [hH hh] at hb; exact hr.bndF b k hb
      | false => rw [hL hh] at hb; have := k3.bndF b k hb; omega
    · have hk' : Λ.nxt ≤ k := hk
      simp only [L.backFrom]
      rw [if_neg (by omega)]; exact hr.frzF k i hk'
  · rcases hcase with hge | ⟨hlt', hrd'⟩
    · refine ⟨fun b hb => ?_, fun b n hb => ?_, ?_, fun b i hb => ?_, fun b i n hb => ?_, fun i => ?_⟩
      · cases hh : Λ.high m b with
        | true => rw [hH hh] at hb; exact hk.obj b hb
        | false => have := (hlowname hh (.inl hb)).1; omega
      · cases hh : Λ.high m b with
        | true => rw [hH hh] at hb; exact hk.arr b n hb
        | false => have := (hlowname hh (.inr ⟨n, hb⟩)).1; omega
      · simp only [L.backFrom]; rw [if_neg (by omega)]; exact hk.fro
      · cases hh : Λ.high m b with
        | true => rw [hH hh] at hb; exact hk.fob b i hb
        | false => rw [hL hh] at hb; have := k3.bndF b k (.inl ⟨i, hb⟩); omega
      · cases hh : Λ.high m b with
        | true => rw [hH hh] at hb; exact hk.far b i n hb
        | false => rw [hL hh] at hb; have := k3.bndF b k (.inr ⟨i, n, hb⟩); omega
      · simp only [L.backFrom]; rw [if_neg (by omega)]; exact hk.frf i
    · rw [hrd] at hrd'; cases hrd'

/-- a call that is handed the whole store and leaves it as it is -/
theorem callSame {f : FuncId} {vs : List V} {x : V} {base : Nat} {sto : List (Nat × AObj)} {K : Out → Prop} (h : FnOk P f vs ⟨sto, base⟩ { v := x, rd := true }) (hb : V.bds base vs = true) (hs : stoBd base sto = true) (hk : K { v := x, rd := true }) : FnEv P f vs base sto K :=
  ⟨_, by simp only [if_true]; exact h.same rfl hb hs (by simp), hk⟩

end
end Go.GB


/-
  GbYe: objects that are lists, and maps of a type, without names in them.
-/
namespace Go.GB
def mE {κ ν : Type} (ek : κ → List T) (ev : ν → T) (l : List (κ × ν)) : List (List T × V) := l.map fun e => (ek e.1, .t (ev e.2))
def cE {ν : Type} (ev : ν → T) (l : List ν) : List V := l.map fun x => .t (ev x)
theorem V.bds_cE {ν : Type} (m : Nat) (ev : ν → T) : ∀ (l : List ν), V.bds m (cE ev l) = true
  | [] => rfl
  | x :: r => by have := V.bds_cE m ev r; simp only [cE] at this; simp [cE, V.bds, V.bd, this]
theorem AObj.bd_cE {ν : Type} (m : Nat) (ev : ν → T) (l : List ν) : (AObj.cells (cE ev l)).bd m = true := V.bds_cE m ev l
theorem AObj.bd_mE {κ ν : Type} (m : Nat) (kag : Bool) (ek : κ → List T) (ev : ν → T) (l : List (κ × ν)) (sx : Option (Nat × List Nat)) : (AObj.map kag (mE ek ev l) sx).bd m = true := by
  have := V.bds_cE m (fun e : κ × ν => ev e.2) l
  simp only [cE] at this
  simp only [AObj.bd, mE, List.map_map, Function.comp_def]; exact this
theorem LeXs.cE {ν : Type} {m m' : Nat} {ev : ν → T} {l l' : List ν} (h : l = l') : LeXs m m' (cE ev l) (cE ev l') := h ▸ .same (V.bds_cE m ev l)
theorem LeO.cE {ν : Type} {m m' : Nat} {ev : ν → T} {l l' : List ν} (h : l = l') : LeO m m' (.cells (cE ev l)) (.cells (cE ev l')) := .cells (.cE h)
theorem LeO.mE {κ ν : Type} {m m' : Nat} {kag : Bool} {ek : κ → List T} {ev : ν → T} {l l' : List (κ × ν)} {sx sx' : Option (Nat × List Nat)} (h : l = l') (hs : sx' = none ∨ sx' = sx) : LeO m m' (.map kag (mE ek ev l) sx) (.map kag (mE ek ev l') sx') := by
  subst h
  have := V.bds_cE m (fun e : κ × ν => ev e.2) l
  simp only [Go.GB.cE] at this
  exact .map rfl (by simp only [Go.GB.mE, List.map_map, Function.comp_def]; exact .same this) hs

/-- cells of a list whose elements have some cells each -/
def gE {α : Type} (f : α → List V) (l : List α) : List V := (l.map f).flatten
theorem gE_append {α : Type} (f : α → List V) (l k : List α) : gE f (l ++ k) = gE f l ++ gE f k := by simp [gE]
theorem gE_length {α : Type} {f : α → List V} {sz : Nat} (h : ∀ x, (f x).length = sz) : ∀ (l : List α), (gE f l).length = l.length * sz
  | [] => by simp [gE]
  | x :: r => by
    have := gE_length h r
    simp only [gE] at this
    simp only [gE, List.map_cons, List.flatten_cons, List.length_append, this, h, List.length_cons]
    rw [Nat.add_mul]; omega
theorem V.bds_app (m : Nat) : ∀ (a b : List V), V.bds m (a ++ b) = (V.bds m a && V.bds m b)
  | [], b => by simp [V.bds]
  | x :: r, b => by simp [V.bds, V.bds_app m r b, Bool.and_assoc]
theorem V.bds_gE {α : Type} {m : Nat} {f : α → List V} (h : ∀ x, V.bds m (f x) = true) : ∀ (l : List α), V.bds m (gE f l) = true
  | [] => rfl
  | x :: r => by
    have := V.bds_gE h r
    simp only [gE] at this
    simp only [gE, List.map_cons, List.flatten_cons, V.bds_app, h, this, Bool.and_self]
theorem LeXs.gE {α : Type} {m m' : Nat} {f : α → List V} {l l' : List α} (h : l = l') (hb : ∀ x, V.bds m (f x) = true) : LeXs m m' (gE f l) (gE f l') := h ▸ .same (V.bds_gE hb l)
theorem LeO.groE {m m' r r' : Nat} {cs ds : List V} (e : r = r') (h : LeXs m m' cs ds) : LeO m m' (.gro r cs) (.gro r' ds) := e ▸ .gro h
theorem LeX.gslEq {m m' k ver ver' off off' len len' sz : Nat} (e1 : ver = ver') (e2 : off = off') (e3 : len = len') (h : k < m) : LeX m m' (.gsl k ver off len sz) (.gsl k ver' off' len' sz) := by
  subst e1; subst e2; subst e3; exact .same (by simpa [V.bd] using h)
theorem LeX.fowEq {m m' k i i' sz : Nat} {xs ys : List (List T)} (e : i = i') (e2 : xs = ys) (h : k < m) : LeX m m' (.fow k i sz xs) (.fow k i' sz ys) := by
  subst e; subst e2; exact .same (by simpa [V.bd] using h)
end Go.GB


/-
  GbYr: calls in bigger stores: the callee knows some of the caller's objects, by its own names.
-/
namespace Go.GB
section
variable {P : Program}

mutual
/-- a value under other names -/
def V.ren (ρ : Nat → Nat) : V → V
  | .t x => .t x
  | .nils => .nils
  | .top => .top
  | .own k sz xs => .own (ρ k) sz xs
  | .slc k o l s => .slc (ρ k) o l s
  | .ptr k o => .ptr (ρ k) o
  | .mp k => .mp (ρ k)
  | .fn f cs => .fn f (cs.map fun c => (ρ c.1, c.2))
  | .agg cs => .agg (V.rens ρ cs)
  | .tup cs => .tup (V.rens ρ cs)
  | .gd c x => .gd c (x.ren ρ)
  | .ub c d => .ub c d
  | .fpt k i o => .fpt (ρ k) i o
  | .gpt k v o => .gpt (ρ k) v o
  | .gsl k v o l s => .gsl (ρ k) v o l s
  | .fow k i s xs => .fow (ρ k) i s xs
def V.rens (ρ : Nat → Nat) : List V → List V
  | [] => []
  | x :: r => x.ren ρ :: V.rens ρ r
end
theorem V.rens_eq (ρ : Nat → Nat) : ∀ (cs : List V), V.rens ρ cs = cs.map (V.ren ρ)
  | [] => rfl
  | x :: r => by simp [V.rens, V.rens_eq ρ r]

def AObj.ren (ρ : Nat → Nat) : AObj → AObj
  | .cells cs => .cells (V.rens ρ cs)
  | .map kag es st => .map kag (es.map fun e => (e.1, e.2.ren ρ)) st
  | .arr n => .arr n
  | .iter q s seen c => .iter (ρ q) s seen c
  | .gro v cs => .gro v (V.rens ρ cs)
  | .fobs os => .fobs (os.map (V.rens ρ))
  | .farr ns => .farr ns
  | .memo a I => .memo a I

structure Rn (ρ : Nat → Nat) (σ : Nat → Option Nat) (m1 m n : Nat) : Prop where
  inv : ∀ k j, σ k = some j → ρ j = k ∧ j < m1 + n
  at_ : ∀ j, j < m1 + n → σ (ρ j) = some j
  low : ∀ j, j < m1 → ρ j < m
  new : ∀ j, m1 ≤ j → j < m1 + n → ρ j = m + (j - m1)

/-- what the callee sees -/
def L.view (Λ : L) (ρ : Nat → Nat) (σ : Nat → Option Nat) (m1 : Nat) : L where
  lab := fun b => match Λ.lab b with
    | .obj k => match σ k with | some j => .obj j | none => .fix (some 0)
    | .arr k fr => match σ k with | some j => .arr j fr | none => .fix (some fr)
    | .fob k i => match σ k with | some j => .fob j i | none => .fix (some 0)
    | .far k i fr => match σ k with | some j => .far j i fr | none => .fix (some fr)
    | x => x
  fro := fun j => if j < m1 then Λ.fro (ρ j) else 0
  nxt := m1
  w := Λ.w
  frf := fun j i => if j < m1 then Λ.frf (ρ j) i else 0

/-- a block that the callee does not see as an object -/
def L.hid (Λ : L) (σ : Nat → Option Nat) (b : Nat) : Bool :=
  match Λ.lab b with
  | .obj k => (σ k).isNone
  | .arr k _ => (σ k).isNone
  | .fob k _ => (σ k).isNone
  | .far k _ _ => (σ k).isNone
  | _ => false

def Lab.ren (ρ : Nat → Nat) : Lab → Lab
  | .obj k => .obj (ρ k)
  | .arr k fr => .arr (ρ k) fr
  | .fob k i => .fob (ρ k) i
  | .far k i fr => .far (ρ k) i fr
  | x => x

/-- the caller's labels behind the call -/
def L.unview (Λ : L) (ρ : Nat → Nat) (σ : Nat → Option Nat) (Λ' : L) : L where
  lab := fun b => if Λ.hid σ b then Λ.lab b else (Λ'.lab b).ren ρ
  fro := fun k => match σ k with | some j => Λ'.fro j | none => Λ.fro k
  nxt := Λ.nxt
  w := Λ'.w
  frf := fun k i => match σ k with | some j => Λ'.frf j i | none => Λ.frf k i

variable {ρ : Nat → Nat} {σ : Nat → Option Nat} {m1 m n : Nat}

theorem view_hid {Λ : L} {b : Nat} (h : Λ.hid σ b = true) : ∃ fr, (Λ.view ρ σ m1).lab b = .fix (some fr) ∧ ((∃ k, Λ.lab b = .obj k ∧ σ k = none ∧ fr = 0) ∨ (∃ k, Λ.lab b = .arr k fr ∧ σ k = none) ∨ (∃ k i, Λ.lab b = .fob k i ∧ σ k = none ∧ fr = 0) ∨ ∃ k i, Λ.lab b = .far k i fr ∧ σ k = none) := by
  unfold L.hid at h
  simp only [L.view]
  cases hl : Λ.lab b with
  | fix fr => rw [hl] at h; simp at h
  | obj k => rw [hl] at h; simp at h; exact ⟨0, by simp [h], .inl ⟨k, rfl, h, rfl⟩⟩
  | arr k fr => rw [hl] at h; simp at h; exact ⟨fr, by simp [h], .inr (.inl ⟨k, rfl, h⟩)⟩
  | fob k i => rw [hl] at h; simp at h; exact ⟨0, by simp [h], .inr (.inr (.inl ⟨k, i, rfl, h, rfl⟩))⟩
  | far k i fr => rw [hl] at h; simp at h; exact ⟨fr, by simp [h], .inr (.inr (.inr ⟨k, i, rfl, h⟩))⟩
theorem view_obj {Λ : L} {b k j : Nat} (h : Λ.lab b = .obj k) (hk : σ k = some j) : (Λ.view ρ σ m1).lab b = .obj j := by simp [L.view, h, hk]
theorem view_arr {Λ : L} {b k j fr : Nat} (h : Λ.lab b = .arr k fr) (hk : σ k = some j) : (Λ.view ρ σ m1).lab b = .arr j fr := by simp [L.view, h, hk]
theorem view_fob {Λ : L} {b k j i : Nat} (h : Λ.lab b = .fob k i) (hk : σ k = some j) : (Λ.view ρ σ m1).lab b = .fob j i := by simp [L.view, h, hk]
theorem view_far {Λ : L} {b k j i fr : Nat} (h : Λ.lab b = .far k i fr) (hk : σ k = some j) : (Λ.view ρ σ m1).lab b = .far j i fr := by simp [L.view, h, hk]
theorem view_fix {Λ : L} {b : Nat} {fr : Option Nat} (h : Λ.lab b = .fix fr) : (Λ.view ρ σ m1).lab b = .fix fr := by simp [L.view, h]
theorem view_obj_inv {Λ : L} {b j : Nat} (h : (Λ.view ρ σ m1).lab b = .obj j) : ∃ k, Λ.lab b = .obj k ∧ σ k = some j := by
  simp only [L.view] at h
  cases hl : Λ.lab b with
  | fix fr => simp [hl] at h
  | obj k => simp only [hl] at h; split at h <;> simp_all
  | arr k fr => simp only [hl] at h; split at h <;> simp_all
  | fob k i => simp only [hl] at h; split at h <;> simp_all
  | far k i fr => simp only [hl] at h; split at h <;> simp_all
theorem view_arr_inv {Λ : L} {b j fr : Nat} (h : (Λ.view ρ σ m1).lab b = .arr j fr) : ∃ k, Λ.lab b = .arr k fr ∧ σ k = some j := by
  simp only [L.view] at h
  cases hl : Λ.lab b with
  | fix fr => simp [hl] at h
  | obj k => simp only [hl] at h; split at h <;> simp_all
  | arr k fr => simp only [hl] at h; split at h <;> simp_all
  | fob k i => simp only [hl] at h; split at h <;> simp_all
  | far k i fr => simp only [hl] at h; split at h <;> simp_all
theorem view_fob_inv {Λ : L} {b j i : Nat} (h : (Λ.view ρ σ m1).lab b = .fob j i) : ∃ k, Λ.lab b = .fob k i ∧ σ k = some j := by
  simp only [L.view] at h
  cases hl : Λ.lab b with
  | fix fr => simp [hl] at h
  | obj k => simp only [hl] at h; split at h <;> simp_all
  | arr k fr => simp only [hl] at h; split at h <;> simp_all
  | fob k i => simp only [hl] at h; split at h <;> simp_all
  | far k i fr => simp only [hl] at h; split at h <;> simp_all
theorem view_far_inv {Λ : L} {b j i fr : Nat} (h : (Λ.view ρ σ m1).lab b = .far j i fr) : ∃ k, Λ.lab b = .far k i fr ∧ σ k = some j := by
  simp only [L.view] at h
  cases hl : Λ.lab b with
  | fix fr => simp [hl] at h
  | obj k => simp only [hl] at h; split at h <;> simp_all
  | arr k fr => simp only [hl] at h; split at h <;> simp_all
  | fob k i => simp only [hl] at h; split at h <;> simp_all
  | far k i fr => simp only [hl] at h; split at h <;> simp_all
theorem view_rd {Λ : L} {b o : Nat} (h : Rd Λ.lab b o) : Rd (Λ.view ρ σ m1).lab b o := by
  unfold Rd at *
  cases hl : Λ.lab b with
  | fix fr => rw [view_fix hl]; rw [hl] at h; exact h
  | obj k => rw [hl] at h; exact h.elim
  | arr k fr =>
    rw [hl] at h
    cases hk : σ k with
    | some j => rw [view_arr hl hk]; exact h
    | none => simp only [L.view, hl, hk]; exact h
  | fob k i => rw [hl] at h; exact h.elim
  | far k i fr =>
    rw [hl] at h
    cases hk : σ k with
    | some j => rw [view_far hl hk]; exact h
    | none => simp only [L.view, hl, hk]; exact h
theorem RepT.view {Λ : L} {v : Value} {x : T} (h : RepT Λ.lab Λ.w v x) : RepT (Λ.view ρ σ m1).lab (Λ.view ρ σ m1).w v x := h.keep fun _ _ _ _ hr => ⟨view_rd hr, rfl⟩

theorem view_cur (hn : Rn ρ σ m1 m n) {Λ : L} {b k j : Nat} (h : GCur Λ.lab k b) (hk : σ k = some j) : GCur (Λ.view ρ σ m1).lab j b := by
  obtain ⟨i, e1, e2⟩ := h
  refine ⟨i, view_fob e1 hk, fun b' i' h' => ?_⟩
  obtain ⟨k', a1, a2⟩ := view_fob_inv h'
  have h1 := (hn.inv _ _ a2).1
  have h2 := (hn.inv _ _ hk).1
  rw [← h1, h2] at a1
  exact e2 b' i' a1

theorem RelV.view (hn : Rn ρ σ m1 m n) {Λ : L} {v : Value} {y : V} (h : RelV Λ v y) : ∀ {x : V}, x.ren ρ = y → x.bd m1 = true → RelV (Λ.view ρ σ m1) v x := by
  induction h with
  | t h => intro x hx hb; cases x <;> simp [V.ren] at hx; subst hx; exact .t h.view
  | nils => intro x hx hb; cases x <;> simp [V.ren] at hx; exact .nils
  | @own v k sz xs h hsz hl hm ho =>
    intro x hx hb; cases x <;> simp [V.ren] at hx
    rename_i j sz' xs'
    obtain ⟨e1, rfl, rfl⟩ := hx
    have hj : j < m1 := by simpa [V.bd] using hb
    have hf : (Λ.view ρ σ m1).fro j = Λ.fro k := by simp [L.view, hj, e1]
    have hs : σ k = some j := by rw [← e1]; exact hn.at_ j (by omega)
    refine .own h.view hsz hj (by rw [hf]; exact hm) fun he => ?_
    rcases ho (by rw [← hf]; exact he) with ho | ⟨b, cap, arr, e, hv, hb', hh, hc, hn'⟩
    · exact .inl ho
    · exact .inr ⟨b, cap, arr, e, hv, view_arr hb' hs, hh, hc, hn'⟩
  | @slc b k off len cap sz hl hc h =>
    intro x hx hb; cases x <;> simp [V.ren] at hx
    rename_i j _ _ _
    obtain ⟨e1, rfl, rfl, rfl⟩ := hx
    have hj : j < m1 := by simpa [V.bd] using hb
    exact .slc hj hc (view_obj h (by rw [← e1]; exact hn.at_ j (by omega)))
  | @agg vs cs hs hv ih =>
    intro x hx hb; cases x <;> simp [V.ren] at hx
    rename_i ds
    rw [V.rens_eq] at hx; subst hx
    refine .agg (by simpa using hs) fun j v c h1 h2 => ih j v (c.ren ρ) h1 (by simp [h2]) rfl (V.bds_at (by simpa [V.bd] using hb) j c h2)
  | @tup vs cs hs hv ih =>
    intro x hx hb; cases x <;> simp [V.ren] at hx
    rename_i ds
    rw [V.rens_eq] at hx; subst hx
    refine .tup (by simpa using hs) fun j v c h1 h2 => ih j v (c.ren ρ) h1 (by simp [h2]) rfl (V.bds_at (by simpa [V.bd] using hb) j c h2)
  | @ptr b k off hl h =>
    intro x hx hb; cases x <;> simp [V.ren] at hx
    rename_i j _
    obtain ⟨e1, rfl⟩ := hx
    have hj : j < m1 := by simpa [V.bd] using hb
    exact .ptr hj (view_obj h (by rw [← e1]; exact hn.at_ j (by omega)))
  | @mp b k hl h =>
    intro x hx hb; cases x <;> simp [V.ren] at hx
    rename_i j
    have hj : j < m1 := by simpa [V.bd] using hb
    exact .mp hj (view_obj h (by rw [← hx]; exact hn.at_ j (by omega)))
  | @fn f vs cs hs h =>
    intro x hx hb; cases x <;> simp [V.ren] at hx
    obtain ⟨rfl, rfl⟩ := hx
    rename_i ds
    refine .fn (by simpa using hs) fun j v c h1 h2 => ?_
    obtain ⟨b, e1, e2, e3⟩ := h j v (ρ c.1, c.2) h1 (by simp only [List.getElem?_map, h2, Option.map_some])
    have hk : c.1 < m1 := by
      simp only [V.bd, List.all_eq_true, decide_eq_true_eq] at hb
      exact hb c (List.mem_of_getElem? h2)
    exact ⟨b, e1, view_obj e2 (hn.at_ c.1 (by omega)), hk⟩
  | gd _ h' ih =>
    intro x hx hb; cases x <;> simp [V.ren] at hx
    obtain ⟨rfl, e⟩ := hx
    exact .gd (fun hc => ih hc e (by simpa [V.bd] using hb)) h'
  | top => intro x hx hb; cases x <;> simp [V.ren] at hx; exact .top
  | ub h h' => intro x hx hb; cases x <;> simp only [V.ren, V.ub.injEq, reduceCtorEq] at hx; obtain ⟨rfl, rfl⟩ := hx; exact .ub h h'
  | @fpt b k i off hl h =>
    intro x hx hb; cases x <;> simp [V.ren] at hx
    rename_i j _ _
    obtain ⟨e1, rfl, rfl⟩ := hx
    have hj : j < m1 := by simpa [V.bd] using hb
    exact .fpt hj (view_fob h (by rw [← e1]; exact hn.at_ j (by omega)))
  | @gpt v k ver off hv hl hm h =>
    intro x hx hb; cases x <;> simp [V.ren] at hx
    rename_i j _ _
    obtain ⟨e1, rfl, rfl⟩ := hx
    have hj : j < m1 := by simpa [V.bd] using hb
    have hf : (Λ.view ρ σ m1).frf j 0 = Λ.frf k 0 := by simp [L.view, hj, e1]
    have hs : σ k = some j := by rw [← e1]; exact hn.at_ j (by omega)
    refine .gpt hv hj (by rw [hf]; exact hm) fun he => ?_
    obtain ⟨b, e1, e2⟩ := h (by rw [← hf]; exact he)
    exact ⟨b, e1, view_cur hn e2 hs⟩
  | @gsl v k ver off len sz hv hl hm h =>
    intro x hx hb; cases x <;> simp [V.ren] at hx
    rename_i j _ _ _ _
    obtain ⟨e1, rfl, rfl, rfl, rfl⟩ := hx
    have hj : j < m1 := by simpa [V.bd] using hb
    have hf : (Λ.view ρ σ m1).frf j 0 = Λ.frf k 0 := by simp [L.view, hj, e1]
    have hs : σ k = some j := by rw [← e1]; exact hn.at_ j (by omega)
    refine .gsl hv hj (by rw [hf]; exact hm) fun he => ?_
    rcases h (by rw [← hf]; exact he) with h | ⟨b, cap, N, hv, hc, e2, hN, he'⟩
    · exact .inl h
    · exact .inr ⟨b, cap, N, hv, hc, view_cur hn e2 hs, hN, he'⟩
  | @fow v k i sz xs h hsz hl hm ho =>
    intro x hx hb; cases x <;> simp [V.ren] at hx
    rename_i j _ _ _
    obtain ⟨e1, rfl, rfl, rfl⟩ := hx
    have hj : j < m1 := by simpa [V.bd] using hb
    have hf : ∀ i, (Λ.view ρ σ m1).frf j i = Λ.frf k i := by intro i; simp [L.view, hj, e1]
    have hs : σ k = some j := by rw [← e1]; exact hn.at_ j (by omega)
    refine .fow h.view hsz hj (by rw [hf]; exact hm) fun he => ?_
    rcases ho (by rw [← hf]; exact he) with ho | ⟨b, cap, arr, e, hv, hb', hh, hc, hn'⟩
    · exact .inl ho
    · exact .inr ⟨b, cap, arr, e, hv, view_far hb' hs, hh, hc, hn'⟩

theorem aget_asets_ren (hn : Rn ρ σ m1 m n) : ∀ (ob : List (Nat × AObj)) (s s1 : List (Nat × AObj)), (∀ j, j < m1 + n → aget s (ρ j) = (aget s1 j).map (AObj.ren ρ)) → (∀ j o, (j, o) ∈ ob → j < m1 + n) →
    (∀ j, j < m1 + n → aget (asets s (ob.map fun e => (ρ e.1, e.2.ren ρ))) (ρ j) = (aget (asets s1 ob) j).map (AObj.ren ρ)) ∧ (∀ k, σ k = none → aget (asets s (ob.map fun e => (ρ e.1, e.2.ren ρ))) k = aget s k)
  | [], s, s1, h, _ => ⟨h, fun _ _ => rfl⟩
  | (i, o) :: r, s, s1, h, hb => by
    simp only [List.map_cons, asets]
    have hi : i < m1 + n := hb i o (by simp)
    obtain ⟨g1, g2⟩ := aget_asets_ren hn r (aset s (ρ i) (o.ren ρ)) (aset s1 i o) (fun j hj => by
      rw [aget_aset, aget_aset]
      by_cases e : i = j
      · subst e; simp
      · have : ρ i ≠ ρ j := by
          intro e'
          have h1 := hn.at_ i hi
          have h2 := hn.at_ j hj
          rw [e', h2] at h1
          simp at h1; exact e h1.symm
        simp only [e, this, if_false]; exact h j hj) (fun j o hj => hb j o (by simp [hj]))
    refine ⟨g1, fun k hk => ?_⟩
    rw [g2 k hk, aget_aset]
    have : ρ i ≠ k := by rintro rfl; rw [hn.at_ i hi] at hk; cases hk
    simp [this]

theorem FnOk.ren {out : Out} (hn : Rn ρ σ m1 m out.n) {f : FuncId} {vs : List V} {sto s1 : List (Nat × AObj)} (h : FnOk P f vs ⟨s1, m1⟩ out) (hb : V.bds m1 vs = true) (hs : stoBd m1 s1 = true)
    (hsub : ∀ j, j < m1 → aget sto (ρ j) = (aget s1 j).map (AObj.ren ρ)) (hob : ∀ k o, (k, o) ∈ out.ob → k < m1 + out.n ∧ (aget s1 k ≠ none ∨ m1 ≤ k)) :
    FnAt P f (V.rens ρ vs) m sto { v := out.v.ren ρ, ob := out.ob.map fun e => (ρ e.1, e.2.ren ρ), n := out.n, rd := true } := by
  refine ⟨h.1, fun k o hk => ?_, fun Λ args hr hle hfree hsz hargs => ?_⟩
  · simp only [List.mem_map] at hk
    obtain ⟨⟨j, o'⟩, hj, e⟩ := hk
    simp at e
    obtain ⟨rfl, rfl⟩ := e
    obtain ⟨h1, h2⟩ := hob j o' hj
    by_cases hj1 : j < m1
    · left
      rcases h2 with h2 | h2
      · rw [hsub j hj1]; simpa using h2
      · omega
    · right
      have := hn.new j (by omega) h1
      show m ≤ ρ j ∧ ρ j < m + out.n
      omega
  simp only at hle hfree
  -- names that are new bear nothing
  have hfresh : ∀ {b k j : Nat}, σ k = some j → (Λ.lab b = .obj k ∨ ∃ fr, Λ.lab b = .arr k fr) → j < m1 := by
    intro b k j hk hl
    obtain ⟨e, hj⟩ := hn.inv k j hk
    rcases Nat.lt_or_ge j m1 with h | h
    · exact h
    · have e2 := hn.new j h hj
      have := (hfree k (by omega) (by omega)).2.1
      rcases hl with hl | ⟨fr, hl⟩
      · exact absurd hl (this.obj b)
      · exact absurd hl (this.arr b fr)
  have hfreshF : ∀ {b k j : Nat}, σ k = some j → ((∃ i, Λ.lab b = .fob k i) ∨ ∃ i fr, Λ.lab b = .far k i fr) → j < m1 := by
    intro b k j hk hl
    obtain ⟨e, hj⟩ := hn.inv k j hk
    rcases Nat.lt_or_ge j m1 with h | h
    · exact h
    · have e2 := hn.new j h hj
      have := (hfree k (by omega) (by omega)).2.1
      rcases hl with ⟨i, hl⟩ | ⟨i, fr, hl⟩
      · exact absurd hl (this.fob b i)
      · exact absurd hl (this.far b i fr)
  have hr1 : RelS (Λ.view ρ σ m1) ⟨s1, m1⟩ := by
    refine ⟨fun j o hj => ?_, fun b b' j h1 h2 => ?_, fun b hb => ?_, fun b j hb => ?_, fun j hj => ?_, fun b b' j i h1 h2 => ?_, fun b j hb => ?_, fun j i hj => ?_⟩
    · obtain ⟨h1, h2⟩ := stoBd_at hs j o hj
      refine ⟨h1, ?_⟩
      have hro := (hr.sto (ρ j) (o.ren ρ) (by rw [hsub j h1, hj]; rfl)).2
      have hs' := hn.at_ j (by omega)
      cases o with
      | cells cs =>
        obtain ⟨b, arr, e, e1, e2, e3, e4⟩ := hro
        rw [V.rens_eq] at e3 e4
        exact ⟨b, arr, e, view_obj e1 hs', e2, by simpa using e3, fun i v c a1 a2 => (e4 i v (c.ren ρ) a1 (by simp [a2])).view hn rfl (V.bds_at (by simpa [AObj.bd] using h2) i c a2)⟩
      | map kag es sx =>
        obtain ⟨b, ents, clock, e1, e2, e3⟩ := hro
        refine ⟨b, ents, clock, view_obj e1 hs', e2, ⟨by simpa using e3.size, fun i e kv a1 a2 => ?_, e3.born, e3.apart, e3.known⟩⟩
        obtain ⟨g1, g2⟩ := e3.at_ i e (kv.1, kv.2.ren ρ) a1 (by simp [a2])
        exact ⟨g1.keep fun _ _ h => h.view, g2.view hn rfl (V.bds_at (by simpa [AObj.bd] using h2) i kv.2 (by simp [a2]))⟩
      | arr n => have hro' : Λ.fro (ρ j) = n := hro
                 unfold RelO; simp [L.view, h1, hro']
      | iter q s seen c =>
        have hq : q < m1 := by simpa [AObj.bd] using h2
        obtain ⟨b, bm, e1, e2, e3, e4⟩ := hro
        exact ⟨b, bm, view_obj e1 hs', e2, view_obj e3 (hn.at_ q (by omega)), hq⟩
      | gro ver cs =>
        obtain ⟨q0, q⟩ := hro
        rw [V.rens_eq] at q
        refine ⟨by simpa [L.view, h1] using q0, ?_⟩
        rcases q with ⟨e1, e2⟩ | ⟨b, arr, e, e1, e2, e3, e4⟩
        · refine .inl ⟨by simpa using e1, fun b i hb => ?_⟩
          obtain ⟨k, a1, a2⟩ := view_fob_inv hb
          have := (hn.inv _ _ a2).1
          subst this
          exact e2 b i a1
        · exact .inr ⟨b, arr, e, view_cur hn e1 hs', e2, by simpa using e3, fun i v c a1 a2 => (e4 i v (c.ren ρ) a1 (by simp [a2])).view hn rfl (V.bds_at (by simpa [AObj.bd] using h2) i c a2)⟩
      | fobs os =>
        obtain ⟨q0, q⟩ := hro
        refine ⟨fun b i hb => ?_, fun i cs hi => ?_⟩
        · obtain ⟨k, a1, a2⟩ := view_fob_inv hb
          have := (hn.inv _ _ a2).1
          subst this
          simpa using q0 b i a1
        · obtain ⟨b, arr, e, e1, e2, e3, e4⟩ := q i (V.rens ρ cs) (by simp [hi])
          rw [V.rens_eq] at e3 e4
          have hbd : V.bds m1 cs = true := by
            simp only [AObj.bd, List.all_eq_true] at h2
            exact h2 cs (List.mem_of_getElem? hi)
          exact ⟨b, arr, e, view_fob e1 hs', e2, by simpa using e3, fun i v c a1 a2 => (e4 i v (c.ren ρ) a1 (by simp [a2])).view hn rfl (V.bds_at hbd i c a2)⟩
      | farr ns => intro i; have := hro i; simpa [L.view, h1] using this
      | memo kag I =>
        obtain ⟨b, ents, clock, e1, e2, e3, e4, e5⟩ := hro
        refine ⟨b, ents, clock, view_obj e1 hs', e2, e3, e4, fun i e hi => ?_⟩
        obtain ⟨cs, v, q1, q2, q3⟩ := e5 i e hi
        exact ⟨cs, v, q1.keep fun _ _ h => h.view, q2.view, q3⟩
    · obtain ⟨k, a1, a2⟩ := view_obj_inv h1
      obtain ⟨k', b1, b2⟩ := view_obj_inv h2
      have := (hn.inv _ _ a2).1
      have := (hn.inv _ _ b2).1
      subst_vars
      exact hr.inj b b' _ a1 b1
    · exact view_fix (hr.new b hb)
    · rcases hb with hb | ⟨fr, hb⟩
      · obtain ⟨k, a1, a2⟩ := view_obj_inv hb; exact hfresh a2 (.inl a1)
      · obtain ⟨k, a1, a2⟩ := view_arr_inv hb; exact hfresh a2 (.inr ⟨_, a1⟩)
    · have hj' : m1 ≤ j := hj
      simp [L.view]; omega
    · obtain ⟨k, a1, a2⟩ := view_fob_inv h1
      obtain ⟨k', b1, b2⟩ := view_fob_inv h2
      have := (hn.inv _ _ a2).1
      have := (hn.inv _ _ b2).1
      subst_vars
      exact hr.injF b b' _ i a1 b1
    · rcases hb with ⟨i, hb⟩ | ⟨i, fr, hb⟩
      · obtain ⟨k, a1, a2⟩ := view_fob_inv hb; exact hfreshF a2 (.inl ⟨_, a1⟩)
      · obtain ⟨k, a1, a2⟩ := view_far_inv hb; exact hfreshF a2 (.inr ⟨_, _, a1⟩)
    · have hj' : m1 ≤ j := hj
      simp [L.view]; omega
  refine (h.2 (Λ.view ρ σ m1) args hr1 rfl (by rw [hsz, V.rens_eq]; simp) fun j v y h1 h2 => (hargs j v (y.ren ρ) h1 (by rw [V.rens_eq]; simp [h2])).view hn rfl (V.bds_at hb j y h2)).mono fun e w' he => ?_
  obtain ⟨v, Λ', rfl, rfl, k1, k2, k3, k4⟩ := he
  simp only at k2 k3
  have hlt : ∀ {b : Nat}, Λ.hid σ b = true → b < Λ.w.heap.size := by
    intro b hh
    rcases Nat.lt_or_ge b Λ.w.heap.size with h | h
    · exact h
    · unfold L.hid at hh; rw [hr.new b h] at hh; simp at hh
  have hH : ∀ {b : Nat}, Λ.hid σ b = true → (Λ.unview ρ σ Λ').lab b = Λ.lab b := fun h => by simp [L.unview, h]
  have hL : ∀ {b : Nat}, Λ.hid σ b = false → (Λ.unview ρ σ Λ').lab b = (Λ'.lab b).ren ρ := fun h => by simp [L.unview, h]
  have hheap : ∀ {b : Nat}, Λ.hid σ b = true → ∃ fr, Λ'.lab b = .fix (some fr) ∧ Λ'.w.heap[b]? = Λ.w.heap[b]? ∧ ((∃ k, Λ.lab b = .obj k ∧ σ k = none ∧ fr = 0) ∨ (∃ k, Λ.lab b = .arr k fr ∧ σ k = none) ∨ (∃ k i, Λ.lab b = .fob k i ∧ σ k = none ∧ fr = 0) ∨ ∃ k i, Λ.lab b = .far k i fr ∧ σ k = none) := by
    intro b hh
    obtain ⟨fr, e1, e2⟩ := view_hid (ρ := ρ) (m1 := m1) hh
    obtain ⟨g1, g2⟩ := k1.fr.fix b (hlt hh) _ e1
    exact ⟨fr, g1, g2, e2⟩
  have hvis : ∀ {b k j : Nat}, σ k = some j → (Λ.lab b = .obj k ∨ ∃ fr, Λ.lab b = .arr k fr) → Λ.hid σ b = false := by
    intro b k j hk hb
    unfold L.hid
    rcases hb with hb | ⟨fr, hb⟩ <;> rw [hb] <;> simp [hk]
  have hvisF : ∀ {b k j : Nat}, σ k = some j → ((∃ i, Λ.lab b = .fob k i) ∨ ∃ i fr, Λ.lab b = .far k i fr) → Λ.hid σ b = false := by
    intro b k j hk hb
    unfold L.hid
    rcases hb with ⟨i, hb⟩ | ⟨i, fr, hb⟩ <;> rw [hb] <;> simp [hk]
  have hfix : ∀ {b : Nat} {fr : Option Nat}, Λ.lab b = .fix fr → Λ.hid σ b = false := by
    intro b fr hb; unfold L.hid; rw [hb]
  have rdren : ∀ {b o : Nat} {l : Nat → Lab}, l b = (Λ'.lab b).ren ρ → Rd Λ'.lab b o → Rd l b o := by
    intro b o l e h
    unfold Rd at *
    rw [e]
    cases hl : Λ'.lab b <;> rw [hl] at h <;> simp only [Lab.ren] <;> exact h
  have hinvF : ∀ {b k j i : Nat}, σ k = some j → (Λ.unview ρ σ Λ').lab b = .fob k i → Λ'.lab b = .fob j i := by
    intro b k j i hk hb
    cases hh : Λ.hid σ b with
    | true => rw [hH hh] at hb; have := hvisF hk (.inl ⟨i, hb⟩); rw [hh] at this; cases this
    | false =>
      rw [hL hh] at hb
      cases hl : Λ'.lab b <;> rw [hl] at hb <;> simp [Lab.ren] at hb
      rename_i j' i'
      obtain ⟨e1, rfl⟩ := hb
      have hb1 := k3.bndF b j' (.inl ⟨_, hl⟩)
      have hb2 := hn.at_ j' (by omega)
      rw [e1, hk] at hb2
      simp at hb2; subst hb2; rfl
  have hkp : Kp Λ (Λ.unview ρ σ Λ') := by
    refine ⟨⟨k1.fr.os, k1.fr.tape, k1.fr.output, k1.fr.size, fun b hb fr hl => ?_, fun b hb k fr hl o ho => ?_, fun b hb k i fr hl o ho => ?_⟩, Nat.le_refl _, fun b k _ hl => ?_, fun b k n _ hb hl hf => ?_, fun k hk => ?_, fun b k i _ hl => ?_, fun b k i n _ hb hl hf => ?_, fun k i hk => ?_, fun b k i hk hp hf hl => ?_⟩
    · obtain ⟨g1, g2⟩ := k1.fr.fix b hb fr (view_fix hl)
      exact ⟨by rw [hL (hfix hl), g1]; rfl, g2⟩
    · cases hk : σ k with
      | none =>
        have hh : Λ.hid σ b = true := by unfold L.hid; rw [hl]; simp [hk]
        obtain ⟨fr', g1, g2, g3⟩ := hheap hh
        exact ⟨by unfold Rd; rw [hH hh, hl]; exact ho, cell?_heap g2⟩
      | some j =>
        have hh := hvis hk (.inr ⟨_, hl⟩)
        obtain ⟨g1, g2⟩ := k1.fr.arr b hb j fr (view_arr hl hk) o ho
        exact ⟨rdren (hL hh) g1, g2⟩
    · cases hk : σ k with
      | none =>
        have hh : Λ.hid σ b = true := by unfold L.hid; rw [hl]; simp [hk]
        obtain ⟨fr', g1, g2, g3⟩ := hheap hh
        exact ⟨by unfold Rd; rw [hH hh, hl]; exact ho, cell?_heap g2⟩
      | some j =>
        have hh := hvisF hk (.inr ⟨_, _, hl⟩)
        obtain ⟨g1, g2⟩ := k1.fr.far b hb j i fr (view_far hl hk) o ho
        exact ⟨rdren (hL hh) g1, g2⟩
    · cases hk : σ k with
      | none => rw [hH (by unfold L.hid; rw [hl]; simp [hk])]; exact hl
      | some j =>
        rw [hL (hvis hk (.inl hl)), k1.obj b j (hfresh hk (.inl hl)) (view_obj hl hk)]
        simp only [Lab.ren, (hn.inv k j hk).1]
    · cases hk : σ k with
      | none =>
        have hh : Λ.hid σ b = true := by unfold L.hid; rw [hl]; simp [hk]
        obtain ⟨fr', g1, g2, g3⟩ := hheap hh
        exact ⟨by rw [hH hh]; exact hl, g2⟩
      | some j =>
        have hj := hfresh hk (.inr ⟨_, hl⟩)
        have e1 : (Λ.view ρ σ m1).fro j = Λ.fro k := by simp [L.view, hj, (hn.inv k j hk).1]
        have e2 : (Λ.unview ρ σ Λ').fro k = Λ'.fro j := by simp [L.unview, hk]
        obtain ⟨g1, g2⟩ := k1.own b j n hj hb (view_arr hl hk) (by rw [← e2, hf, e1])
        exact ⟨by rw [hL (hvis hk (.inr ⟨_, hl⟩)), g1]; simp only [Lab.ren, (hn.inv k j hk).1], g2⟩
    · cases hk' : σ k with
      | none => simp [L.unview, hk']
      | some j =>
        obtain ⟨e1, e2⟩ := hn.inv k j hk'
        simp only [L.unview, hk']
        by_cases hj : j < m1
        · have := k1.fro j hj
          simpa [L.view, hj, e1] using this
        · have e3 := hn.new j (by omega) e2
          rw [(hfree k (by omega) (by omega)).2.1.fro]; omega
    · cases hk : σ k with
      | none =>
        have hh : Λ.hid σ b = true := by unfold L.hid; rw [hl]; simp [hk]
        obtain ⟨fr', g1, g2, g3⟩ := hheap hh
        exact ⟨by rw [hH hh]; exact hl, fun N hN => by unfold rowSize at hN ⊢; show (match Λ'.w.heap[b]? with | some (.cells arr _ _) => some arr.size | _ => none) = _; rw [g2]; exact hN⟩
      | some j =>
        obtain ⟨g1, g2⟩ := k1.fob b j i (hfreshF hk (.inl ⟨_, hl⟩)) (view_fob hl hk)
        exact ⟨by rw [hL (hvisF hk (.inl ⟨_, hl⟩)), g1]; simp only [Lab.ren, (hn.inv k j hk).1], g2⟩
    · cases hk : σ k with
      | none =>
        have hh : Λ.hid σ b = true := by unfold L.hid; rw [hl]; simp [hk]
        obtain ⟨fr', g1, g2, g3⟩ := hheap hh
        exact ⟨by rw [hH hh]; exact hl, g2⟩
      | some j =>
        have hj := hfreshF hk (.inr ⟨_, _, hl⟩)
        have e1 : (Λ.view ρ σ m1).frf j i = Λ.frf k i := by simp [L.view, hj, (hn.inv k j hk).1]
        have e2 : (Λ.unview ρ σ Λ').frf k i = Λ'.frf j i := by simp [L.unview, hk]
        obtain ⟨g1, g2⟩ := k1.far b j i n hj hb (view_far hl hk) (by rw [← e2, hf, e1])
        exact ⟨by rw [hL (hvisF hk (.inr ⟨_, _, hl⟩)), g1]; simp only [Lab.ren, (hn.inv k j hk).1], g2⟩
    · cases hk' : σ k with
      | none => simp [L.unview, hk']
      | some j =>
        obtain ⟨e1, e2⟩ := hn.inv k j hk'
        simp only [L.unview, hk']
        by_cases hj : j < m1
        · have := k1.frf j i hj
          simpa [L.view, hj, e1] using this
        · have e3 := hn.new j (by omega) e2
          rw [(hfree k (by omega) (by omega)).2.1.frf]; omega
    · cases hk' : σ k with
      | none =>
        cases hh : Λ.hid σ b with
        | true => rw [hH hh] at hl; exact hl
        | false =>
          rw [hL hh] at hl
          cases hl' : Λ'.lab b <;> rw [hl'] at hl <;> simp [Lab.ren] at hl
          rename_i j' i'
          have hb1 := k3.bndF b j' (.inl ⟨_, hl'⟩)
          have hb2 := hn.at_ j' (by omega)
          rw [hl.1, hk'] at hb2; cases hb2
      | some j =>
        have hb1 := hinvF hk' hl
        obtain ⟨e1, e2⟩ := hn.inv k j hk'
        by_cases hj : j < m1
        · have e3 : (Λ.view ρ σ m1).frf j 0 = Λ.frf k 0 := by simp [L.view, hj, e1]
          have e4 : (Λ.unview ρ σ Λ').frf k 0 = Λ'.frf j 0 := by simp [L.unview, hk']
          obtain ⟨k', a1, a2⟩ := view_fob_inv (k1.fobN b j i hj (by rw [e3]; exact hp) (by rw [← e4, hf, e3]) hb1)
          have := (hn.inv _ _ a2).1
          rw [← this, e1] at a1; exact a1
        · have e3 := hn.new j (by omega) e2
          have := (hfree k (by omega) (by omega)).2.1.frf 0; omega
  have hobj : ∀ {b j : Nat}, Λ'.lab b = .obj j → (Λ.unview ρ σ Λ').lab b = .obj (ρ j) := by
    intro b k hb
    cases hh : Λ.hid σ b with
    | true => obtain ⟨fr, g1, _⟩ := hheap hh; rw [g1] at hb; simp at hb
    | false => rw [hL hh, hb]; rfl
  have harr : ∀ {b j n : Nat}, Λ'.lab b = .arr j n → (Λ.unview ρ σ Λ').lab b = .arr (ρ j) n := by
    intro b k n hb
    cases hh : Λ.hid σ b with
    | true => obtain ⟨fr, g1, _⟩ := hheap hh; rw [g1] at hb; simp at hb
    | false => rw [hL hh, hb]; rfl
  have hfob : ∀ {b j i : Nat}, Λ'.lab b = .fob j i → (Λ.unview ρ σ Λ').lab b = .fob (ρ j) i := by
    intro b k i hb
    cases hh : Λ.hid σ b with
    | true => obtain ⟨fr, g1, _⟩ := hheap hh; rw [g1] at hb; simp at hb
    | false => rw [hL hh, hb]; rfl
  have hfar : ∀ {b j i n : Nat}, Λ'.lab b = .far j i n → (Λ.unview ρ σ Λ').lab b = .far (ρ j) i n := by
    intro b k i n hb
    cases hh : Λ.hid σ b with
    | true => obtain ⟨fr, g1, _⟩ := hheap hh; rw [g1] at hb; simp at hb
    | false => rw [hL hh, hb]; rfl
  have hcur : ∀ {b j : Nat}, j < m1 + out.n → GCur Λ'.lab j b → GCur (Λ.unview ρ σ Λ').lab (ρ j) b := by
    rintro b j hj ⟨i, e1, e2⟩
    exact ⟨i, hfob e1, fun b' i' h' => e2 b' i' (hinvF (hn.at_ j hj) h')⟩
  have hrep : ∀ {u : Value} {y : T}, RepT Λ'.lab Λ'.w u y → RepT (Λ.unview ρ σ Λ').lab (Λ.unview ρ σ Λ').w u y := by
    intro u y hy
    refine hy.keep fun b o _ _ hrd => ⟨?_, rfl⟩
    cases hh : Λ.hid σ b with
    | true =>
      obtain ⟨fr, g1, _, g3⟩ := hheap hh
      unfold Rd at hrd ⊢
      rw [g1] at hrd
      rw [hH hh]
      rcases g3 with ⟨k, e, _, rfl⟩ | ⟨k, e, _⟩ | ⟨k, i, e, _, rfl⟩ | ⟨k, i, e, _⟩
      · simp at hrd
      · rw [e]; exact hrd
      · simp at hrd
      · rw [e]; exact hrd
    | false => exact rdren (hL hh) hrd
  have hfro : ∀ {j : Nat}, j < m1 + out.n → (Λ.unview ρ σ Λ').fro (ρ j) = Λ'.fro j := by
    intro j hj; simp [L.unview, hn.at_ j hj]
  have hfrf : ∀ {j i : Nat}, j < m1 + out.n → (Λ.unview ρ σ Λ').frf (ρ j) i = Λ'.frf j i := by
    intro j i hj; simp [L.unview, hn.at_ j hj]
  have hρ : ∀ {j : Nat}, j < m1 + out.n → ρ j < Λ.nxt := by
    intro j hj
    by_cases h1 : j < m1
    · have := hn.low j h1; omega
    · have := hn.new j (by omega) hj; omega
  have hval : ∀ {u : Value} {y : V}, RelV Λ' u y → RelV (Λ.unview ρ σ Λ') u (y.ren ρ) := by
    intro u y hy
    induction hy with
    | t h => exact .t (hrep h)
    | nils => exact .nils
    | @own v k sz xs h hsz hl hn' ho =>
      rw [k2] at hl
      refine .own (hrep h) hsz (hρ hl) (by rw [hfro hl]; exact hn') fun he => ?_
      rcases ho (by rw [← hfro hl]; exact he) with ho | ⟨b, cap, arr, e, hv, hb', hh, hc, hn'⟩
      · exact .inl ho
      · exact .inr ⟨b, cap, arr, e, hv, harr hb', hh, hc, hn'⟩
    | slc hl hc h => exact .slc (hρ (by omega)) hc (hobj h)
    | agg hs _ ih =>
      refine .agg (by rw [V.rens_eq]; simpa using hs) fun j v c h1 h2 => ?_
      rw [V.rens_eq, List.getElem?_map, Option.map_eq_some_iff] at h2
      obtain ⟨c', h3, rfl⟩ := h2
      exact ih j v c' h1 h3
    | tup hs _ ih =>
      refine .tup (by rw [V.rens_eq]; simpa using hs) fun j v c h1 h2 => ?_
      rw [V.rens_eq, List.getElem?_map, Option.map_eq_some_iff] at h2
      obtain ⟨c', h3, rfl⟩ := h2
      exact ih j v c' h1 h3
    | ptr hl h => exact .ptr (hρ (by omega)) (hobj h)
    | mp hl h => exact .mp (hρ (by omega)) (hobj h)
    | fn hs h =>
      refine .fn (by simpa using hs) fun j v c h1 h2 => ?_
      rw [List.getElem?_map, Option.map_eq_some_iff] at h2
      obtain ⟨c', h3, rfl⟩ := h2
      obtain ⟨b, e1, e2, e3⟩ := h j v c' h1 h3
      exact ⟨b, e1, hobj e2, hρ (by omega)⟩
    | gd _ h' ih => exact .gd ih h'
    | top => exact .top
    | ub h h' => exact .ub h h'
    | fpt hl h => exact .fpt (hρ (by omega)) (hfob h)
    | gpt hv hl hm h =>
      rw [k2] at hl
      refine .gpt hv (hρ hl) (by rw [hfrf hl]; exact hm) fun he => ?_
      obtain ⟨b, e1, e2⟩ := h (by rw [← hfrf hl]; exact he)
      exact ⟨b, e1, hcur hl e2⟩
    | gsl hv hl hm h =>
      rw [k2] at hl
      refine .gsl hv (hρ hl) (by rw [hfrf hl]; exact hm) fun he => ?_
      rcases h (by rw [← hfrf hl]; exact he) with h | ⟨b, cap, N, hv, hc, e2, hN, he'⟩
      · exact .inl h
      · exact .inr ⟨b, cap, N, hv, hc, hcur hl e2, hN, he'⟩
    | fow h hsz hl hm ho =>
      rw [k2] at hl
      refine .fow (hrep h) hsz (hρ hl) (by rw [hfrf hl]; exact hm) fun he => ?_
      rcases ho (by rw [← hfrf hl]; exact he) with ho | ⟨b, cap, arr, e, hv, hb', hh, hc, hn'⟩
      · exact .inl ho
      · exact .inr ⟨b, cap, arr, e, hv, hfar hb', hh, hc, hn'⟩
  have hname : ∀ {b k : Nat}, Λ.hid σ b = true → ((Λ.unview ρ σ Λ').lab b = .obj k ∨ ∃ n, (Λ.unview ρ σ Λ').lab b = .arr k n) → σ k = none ∧ (Λ.lab b = .obj k ∨ ∃ n, Λ.lab b = .arr k n) := by
    intro b k hh hb
    rw [hH hh] at hb
    refine ⟨?_, hb⟩
    unfold L.hid at hh; rcases hb with hb | ⟨n, hb⟩ <;> rw [hb] at hh <;> simpa using hh
  have hseen : ∀ {b k : Nat}, Λ.hid σ b = false → ((Λ.unview ρ σ Λ').lab b = .obj k ∨ ∃ n, (Λ.unview ρ σ Λ').lab b = .arr k n) → ∃ j, ρ j = k ∧ j < m1 + out.n ∧ (Λ'.lab b = .obj j ∨ ∃ n, Λ'.lab b = .arr j n) := by
    intro b k hh hb
    rw [hL hh] at hb
    cases hl : Λ'.lab b with
    | fix fr => rw [hl] at hb; simp [Lab.ren] at hb
    | obj j => rw [hl] at hb; simp [Lab.ren] at hb; have := k3.bnd b j (.inl hl); exact ⟨j, hb, by omega, .inl rfl⟩
    | arr j n => rw [hl] at hb; simp [Lab.ren] at hb; have := k3.bnd b j (.inr ⟨n, hl⟩); exact ⟨j, hb, by omega, .inr ⟨n, rfl⟩⟩
    | fob j i => rw [hl] at hb; simp [Lab.ren] at hb
    | far j i n => rw [hl] at hb; simp [Lab.ren] at hb
  have hseenF : ∀ {b k : Nat}, Λ.hid σ b = false → ((∃ i, (Λ.unview ρ σ Λ').lab b = .fob k i) ∨ ∃ i n, (Λ.unview ρ σ Λ').lab b = .far k i n) → ∃ j, ρ j = k ∧ j < m1 + out.n := by
    intro b k hh hb
    rw [hL hh] at hb
    cases hl : Λ'.lab b with
    | fix fr => rw [hl] at hb; simp [Lab.ren] at hb
    | obj j => rw [hl] at hb; simp [Lab.ren] at hb
    | arr j n => rw [hl] at hb; simp [Lab.ren] at hb
    | fob j i => rw [hl] at hb; simp [Lab.ren] at hb; have := k3.bndF b j (.inl ⟨i, hl⟩); exact ⟨j, hb, by omega⟩
    | far j i n => rw [hl] at hb; simp [Lab.ren] at hb; have := k3.bndF b j (.inr ⟨i, n, hl⟩); exact ⟨j, hb, by omega⟩
  obtain ⟨ag1, ag2⟩ := aget_asets_ren hn out.ob sto s1 (fun j hj => by
    by_cases h1 : j < m1
    · exact hsub j h1
    · have e3 := hn.new j (by omega) hj
      rw [(hfree (ρ j) (by omega) (by omega)).2.2]
      cases ha : aget s1 j with
      | none => rfl
      | some o => have := (stoBd_at hs j o ha).1; omega) (fun j o hj => (hob j o hj).1)
  refine ⟨v, Λ.unview ρ σ Λ', rfl, rfl, hkp, rfl, ?_, hval k4, fun k hk _ hcase => ?_⟩
  · refine ⟨fun k o ho => ?_, fun b b' k h1 h2 => ?_, fun b hb => ?_, fun b k hb => ?_, fun k hk => ?_, fun b b' k i h1 h2 => ?_, fun b k hb => ?_, fun k i hk => ?_⟩
    · cases hk : σ k with
      | none =>
        have ho' : aget sto k = some o := by rw [← ag2 k hk]; exact ho
        obtain ⟨g1, g2⟩ := hr.sto k o ho'
        refine ⟨g1, g2.mono hkp g1 (fun b hb => ?_) (by simp [L.unview, hk]) (fun b i hb => ?_) (fun b i hb => ?_) (fun i => by simp [L.unview, hk])⟩
        · obtain ⟨fr, q1, q2, _⟩ := hheap (b := b) (by unfold L.hid; rw [hb]; simp [hk])
          exact q2
        · obtain ⟨fr, q1, q2, _⟩ := hheap (b := b) (by unfold L.hid; rw [hb]; simp [hk])
          exact q2
        · cases hh : Λ.hid σ b with
          | true => rw [hH hh] at hb; exact hb
          | false => obtain ⟨j, e1, e2⟩ := hseenF hh (.inl ⟨i, hb⟩); rw [← e1, hn.at_ j e2] at hk; cases hk
      | some j =>
        obtain ⟨e1, e2⟩ := hn.inv k j hk
        subst e1
        have ho' : aget (asets sto (out.ob.map fun e => (ρ e.1, e.2.ren ρ))) (ρ j) = some o := ho
        rw [ag1 j e2, Option.map_eq_some_iff] at ho'
        obtain ⟨o1, a1, rfl⟩ := ho'
        obtain ⟨g1, g2⟩ := k3.sto j o1 a1
        refine ⟨hρ e2, ?_⟩
        cases o1 with
        | cells cs =>
          obtain ⟨b, arr, e, e1, e2, e3, e4⟩ := g2
          refine ⟨b, arr, e, hobj e1, e2, by rw [V.rens_eq]; simpa using e3, fun i v c a1 a2 => ?_⟩
          rw [V.rens_eq, List.getElem?_map, Option.map_eq_some_iff] at a2
          obtain ⟨c', a3, rfl⟩ := a2
          exact hval (e4 i v c' a1 a3)
        | map kag es sx =>
          obtain ⟨b, ents, clock, e1, e2, e3⟩ := g2
          refine ⟨b, ents, clock, hobj e1, e2, ⟨by simpa using e3.size, fun i e kv a1 a2 => ?_, e3.born, e3.apart, e3.known⟩⟩
          rw [List.getElem?_map, Option.map_eq_some_iff] at a2
          obtain ⟨kv', a3, rfl⟩ := a2
          obtain ⟨q1, q2⟩ := e3.at_ i e kv' a1 a3
          exact ⟨q1.keep fun _ _ h => hrep h, hval q2⟩
        | arr n' =>
          unfold RelO at *
          simp only [AObj.ren]
          rw [hfro e2]; exact g2
        | iter q s seen c =>
          obtain ⟨b, bm, a1, a2, a3, a4⟩ := g2
          exact ⟨b, bm, hobj a1, a2, hobj a3, hρ (by omega)⟩
        | gro ver cs =>
          obtain ⟨q0, q⟩ := g2
          refine ⟨by rw [hfrf e2]; exact q0, ?_⟩
          rw [V.rens_eq]
          rcases q with ⟨e3, e4⟩ | ⟨b, arr, e, e3, e4, e5, e6⟩
          · exact .inl ⟨by simp [e3], fun b i hb => e4 b i (hinvF (hn.at_ j e2) hb)⟩
          · refine .inr ⟨b, arr, e, hcur e2 e3, e4, by simpa using e5, fun i v c a1 a2 => ?_⟩
            rw [List.getElem?_map, Option.map_eq_some_iff] at a2
            obtain ⟨c', a3, rfl⟩ := a2
            exact hval (e6 i v c' a1 a3)
        | fobs os =>
          obtain ⟨q0, q⟩ := g2
          refine ⟨fun b i hb => by simpa using q0 b i (hinvF (hn.at_ j e2) hb), fun i cs hi => ?_⟩
          rw [List.getElem?_map, Option.map_eq_some_iff] at hi
          obtain ⟨cs', hi, rfl⟩ := hi
          obtain ⟨b, arr, e, e3, e4, e5, e6⟩ := q i cs' hi
          refine ⟨b, arr, e, hfob e3, e4, by rw [V.rens_eq]; simpa using e5, fun i v c a1 a2 => ?_⟩
          rw [V.rens_eq, List.getElem?_map, Option.map_eq_some_iff] at a2
          obtain ⟨c', a3, rfl⟩ := a2
          exact hval (e6 i v c' a1 a3)
        | farr ns => exact fun i => (hfrf e2).trans (g2 i)
        | memo kag I =>
          obtain ⟨b, ents, clock, e3, e4, e5, e6, e7⟩ := g2
          refine ⟨b, ents, clock, hobj e3, e4, e5, e6, fun i e hi => ?_⟩
          obtain ⟨cs, v, q1, q2, q3⟩ := e7 i e hi
          exact ⟨cs, v, q1.keep fun _ _ h => hrep h, hrep q2, q3⟩
    · cases hh : Λ.hid σ b with
      | true =>
        obtain ⟨q1, q2⟩ := hname hh (.inl h1)
        cases hh' : Λ.hid σ b' with
        | true =>
          rw [hH hh] at h1; rw [hH hh'] at h2
          exact hr.inj b b' k h1 h2
        | false =>
          obtain ⟨j, e1, e2, _⟩ := hseen hh' (.inl h2)
          rw [← e1, hn.at_ j e2] at q1; cases q1
      | false =>
        obtain ⟨j, e1, e2, _⟩ := hseen hh (.inl h1)
        cases hh' : Λ.hid σ b' with
        | true =>
          obtain ⟨q1, _⟩ := hname hh' (.inl h2)
          rw [← e1, hn.at_ j e2] at q1; cases q1
        | false =>
          rw [hL hh] at h1; rw [hL hh'] at h2
          cases hl : Λ'.lab b <;> rw [hl] at h1 <;> simp [Lab.ren] at h1
          cases hl' : Λ'.lab b' <;> rw [hl'] at h2 <;> simp [Lab.ren] at h2
          rename_i j1 j2
          have b1 := k3.bnd b j1 (.inl hl)
          have b2 := k3.bnd b' j2 (.inl hl')
          have c1 := hn.at_ j1 (by omega)
          have c2 := hn.at_ j2 (by omega)
          rw [h1] at c1; rw [h2, c1] at c2
          simp at c2; subst c2
          exact k3.inj b b' j1 hl hl'
    · have hge : Λ.w.heap.size ≤ b := Nat.le_trans k1.fr.size hb
      rw [hL (hfix (hr.new b hge)), k3.new b hb]; rfl
    · show k < Λ.nxt
      cases hh : Λ.hid σ b with
      | true => exact hr.bnd b k (hname hh hb).2
      | false => obtain ⟨j, rfl, e2, _⟩ := hseen hh hb; exact hρ e2
    · have hk' : Λ.nxt ≤ k := hk
      cases hs : σ k with
      | none => simp only [L.unview, hs]; exact hr.frz k hk'
      | some j => obtain ⟨rfl, e2⟩ := hn.inv k j hs; have := hρ e2; omega
    · cases hk : σ k with
      | some j => exact k3.injF b b' j i (hinvF hk h1) (hinvF hk h2)
      | none =>
        have hd : ∀ {b : Nat}, (Λ.unview ρ σ Λ').lab b = .fob k i → Λ.lab b = .fob k i := by
          intro b hb
          cases hh : Λ.hid σ b with
          | true => rw [hH hh] at hb; exact hb
          | false => obtain ⟨j, e1, e2⟩ := hseenF hh (.inl ⟨i, hb⟩); rw [← e1, hn.at_ j e2] at hk; cases hk
        exact hr.injF b b' k i (hd h1) (hd h2)
    · show k < Λ.nxt
      cases hh : Λ.hid σ b with
      | true => rw [hH hh] at hb; exact hr.bndF b k hb
      | false => obtain ⟨j, rfl, e2⟩ := hseenF hh hb; exact hρ e2
    · have hk' : Λ.nxt ≤ k := hk
      cases hs : σ k with
      | none => simp only [L.unview, hs]; exact hr.frzF k i hk'
      | some j => obtain ⟨rfl, e2⟩ := hn.inv k j hs; have := hρ e2; omega
  · have hge : m + out.n ≤ k := by
      rcases hcase with h | ⟨_, h⟩
      · exact h
      · cases h
    have hs0 : σ k = none := by
      cases hs : σ k with
      | none => rfl
      | some j =>
        obtain ⟨rfl, e2⟩ := hn.inv k j hs
        by_cases h1 : j < m1
        · have := hn.low j h1; omega
        · have := hn.new j (by omega) e2; omega
    refine ⟨fun b hb => ?_, fun b n hb => ?_, by simp only [L.unview, hs0]; exact hk.fro, fun b i hb => ?_, fun b i n hb => ?_, fun i => by simp only [L.unview, hs0]; exact hk.frf i⟩
    · cases hh : Λ.hid σ b with
      | true => rw [hH hh] at hb; exact hk.obj b hb
      | false => obtain ⟨j, e1, e2, _⟩ := hseen hh (.inl hb); rw [← e1, hn.at_ j e2] at hs0; cases hs0
    · cases hh : Λ.hid σ b with
      | true => rw [hH hh] at hb; exact hk.arr b n hb
      | false => obtain ⟨j, e1, e2, _⟩ := hseen hh (.inr ⟨n, hb⟩); rw [← e1, hn.at_ j e2] at hs0; cases hs0
    · cases hh : Λ.hid σ b with
      | true => rw [hH hh] at hb; exact hk.fob b i hb
      | false => obtain ⟨j, e1, e2⟩ := hseenF hh (.inl ⟨i, hb⟩); rw [← e1, hn.at_ j e2] at hs0; cases hs0
    · cases hh : Λ.hid σ b with
      | true => rw [hH hh] at hb; exact hk.far b i n hb
      | false => obtain ⟨j, e1, e2⟩ := hseenF hh (.inr ⟨i, n, hb⟩); rw [← e1, hn.at_ j e2] at hs0; cases hs0

end
end Go.GB

