/-
  GbZA: shapes of plain types: what a law is handed, taken apart.
-/
import Derived.Test.YticfklecmdjklaaGbX
namespace Go.GB
open Go.RowKit Go.WideShapes Go.ChangeShapes

inductive Sh where
  | bool
  | int (k : IntKind)
  | str
  | lst (s : List Sh)

/-- fields side by side -/
def joinSh (P : Program) (g : TypeId → Option (List Sh)) : Nat → List (Nat × TypeId) → Option (List Sh)
  | _, [] => some []
  | off, (o, t) :: r =>
    if o = off then
      match g t with
      | some a => if a.length = P.cellsOf t then (joinSh P g (off + P.cellsOf t) r).map fun b => a ++ b else none
      | none => none
    else none

def shOf (P : Program) : Nat → TypeId → Option (List Sh)
  | 0, _ => none
  | n + 1, t =>
    match P.underlying t with
    | some .bool => some [.bool]
    | some (.int k) => some [.int k]
    | some .string => some [.str]
    | some (.slice e) => (shOf P n e).map fun s => [.lst s]
    | some (.struct fs) => (joinSh P (shOf P n) 0 (fs.toList.map fun f => (f.offset, f.type))).bind fun s => if s.length = P.cellsOf t then some s else none
    | some (.array m e) => (joinSh P (shOf P n) 0 ((List.range m).map fun i => (i * P.cellsOf e, e))).bind fun s => if s.length = P.cellsOf t then some s else none
    | _ => none

mutual
/-- a tree of that shape -/
def Sh.ok : Sh → T → Prop
  | .bool, x => ∃ b, x = .bool b
  | .int k, x => ∃ n, x = .int k n ∧ (Lit.int k n).wf = true
  | .str, x => ∃ s, x = .str s ∧ s.length ≤ maxLen
  | .lst sh, x => ∃ xs : List (List T), x = .lst xs ∧ xs.length ≤ maxLen ∧ ∀ c ∈ xs, Sh.oks sh c
def Sh.oks : List Sh → List T → Prop
  | [], [] => True
  | s :: r, x :: ts => s.ok x ∧ Sh.oks r ts
  | _, _ => False
end

theorem Sh.oks_append : ∀ {a b : List Sh} {ts us : List T}, Sh.oks a ts → Sh.oks b us → Sh.oks (a ++ b) (ts ++ us)
  | [], b, [], us, _, h => h
  | [], b, x :: ts, us, h, _ => by simp [Sh.oks] at h
  | s :: r, b, [], us, h, _ => by simp [Sh.oks] at h
  | s :: r, b, x :: ts, us, h, k => by
    simp only [Sh.oks, List.cons_append] at h ⊢
    exact ⟨h.1, Sh.oks_append h.2 k⟩
theorem Sh.oks_length : ∀ {a : List Sh} {ts : List T}, Sh.oks a ts → a.length = ts.length
  | [], [], _ => rfl
  | [], x :: ts, h => by simp [Sh.oks] at h
  | s :: r, [], h => by simp [Sh.oks] at h
  | s :: r, x :: ts, h => by
    simp only [Sh.oks] at h
    simp [Sh.oks_length h.2]

theorem joinSh_ok {P : Program} {g : TypeId → Option (List Sh)} {n : Nat} (hg : ∀ t sh ts, g t = some sh → WT P n t ts → Sh.oks sh ts) : ∀ (l : List (Nat × TypeId)) (off : Nat) (sh : List Sh) (ts : List T), joinSh P g off l = some sh → (∀ p ∈ l, WT P n p.2 ((ts.drop p.1).take (P.cellsOf p.2))) →
    ∃ us, Sh.oks sh us ∧ us = (ts.drop off).take sh.length
  | [], off, sh, ts, h, _ => by simp [joinSh] at h; subst h; exact ⟨[], trivial, by simp⟩
  | (o, t) :: r, off, sh, ts, h, hp => by
    simp only [joinSh] at h
    split at h
    · rename_i e; subst e
      split at h
      · rename_i a ha
        split at h
        · rename_i hl
          simp only [Option.map_eq_some_iff] at h
          obtain ⟨b, hb, rfl⟩ := h
          have h1 := hg t a _ ha (hp (o, t) (by simp))
          obtain ⟨us, h2, h3⟩ := joinSh_ok hg r _ b ts hb fun p hpm => hp p (List.mem_cons_of_mem _ hpm)
          refine ⟨_, Sh.oks_append h1 h2, ?_⟩
          simp only at h1 ⊢
          rw [h3, List.length_append, hl, List.take_add, List.drop_drop]
        · cases h
      · cases h
    · cases h

theorem shOf_ok {P : Program} : ∀ (n m : Nat) (t : TypeId) (sh : List Sh) (ts : List T), shOf P m t = some sh → WT P n t ts → Sh.oks sh ts
  | 0, m, t, sh, ts, _, h => by simp [WT] at h
  | n + 1, 0, t, sh, ts, h, _ => by simp [shOf] at h
  | n + 1, m + 1, t, sh, ts, hs, h => by
    simp only [shOf] at hs
    simp only [WT] at h
    cases hu : P.underlying t with
    | none => rw [hu] at h; exact h.elim
    | some td =>
      rw [hu] at h hs
      cases td with
      | bool => simp only [Option.some.injEq] at hs h; subst hs; obtain ⟨b, rfl⟩ := h; exact ⟨⟨b, rfl⟩, trivial⟩
      | int k => simp at hs h; subst hs; obtain ⟨x, rfl, hw⟩ := h; exact ⟨⟨x, rfl, hw⟩, trivial⟩
      | string => simp at hs h; subst hs; obtain ⟨s, rfl, hw⟩ := h; exact ⟨⟨s, rfl, hw⟩, trivial⟩
      | slice e =>
        simp only [Option.map_eq_some_iff] at hs
        obtain ⟨s, he, rfl⟩ := hs
        obtain ⟨xs, rfl, hl, hc⟩ := h
        exact ⟨⟨xs, rfl, hl, fun c hcm => shOf_ok n m e s c he (hc c hcm)⟩, trivial⟩
      | struct fs =>
        simp only [Option.bind_eq_some_iff] at hs h
        obtain ⟨s, hs, hs2⟩ := hs
        split at hs2
        · rename_i hl
          simp at hs2; subst hs2
          obtain ⟨us, h1, h2⟩ := joinSh_ok (ts := ts) (g := shOf P m) (n := n) (fun t sh ts a b => shOf_ok n m t sh ts a b) _ 0 s hs (fun p hp => by
            rw [List.mem_map] at hp
            obtain ⟨f, hf, rfl⟩ := hp
            exact h.2 f hf)
          rw [List.drop_zero, List.take_of_length_le (by omega)] at h2
          subst h2; exact h1
        · cases hs2
      | array k e =>
        simp only [Option.bind_eq_some_iff] at hs h
        obtain ⟨s, hs, hs2⟩ := hs
        split at hs2
        · rename_i hl
          simp at hs2; subst hs2
          obtain ⟨us, h1, h2⟩ := joinSh_ok (ts := ts) (g := shOf P m) (n := n) (fun t sh ts a b => shOf_ok n m t sh ts a b) _ 0 s hs (fun p hp => by
            rw [List.mem_map] at hp
            obtain ⟨i, hi, rfl⟩ := hp
            exact h.2 i (List.mem_range.1 hi))
          rw [List.drop_zero, List.take_of_length_le (by omega)] at h2
          subst h2; exact h1
        · cases hs2
      | _ => simp at h

/-- trees one by one -/
theorem Sh.oks_cons {s : Sh} {r : List Sh} {ts : List T} (h : Sh.oks (s :: r) ts) : ∃ x ts', ts = x :: ts' ∧ s.ok x ∧ Sh.oks r ts' := by
  cases ts with
  | nil => simp [Sh.oks] at h
  | cons x ts => exact ⟨x, ts, rfl, h⟩
theorem Sh.oks_nil {ts : List T} (h : Sh.oks [] ts) : ts = [] := by
  cases ts with
  | nil => rfl
  | cons x ts => simp [Sh.oks] at h

/-- a list whose elements are encodings -/
theorem choose_map {α : Type} {f : α → List T} {Q : α → Prop} : ∀ (xs : List (List T)), (∀ c ∈ xs, ∃ a, c = f a ∧ Q a) → ∃ l : List α, xs = l.map f ∧ ∀ a ∈ l, Q a
  | [], _ => ⟨[], rfl, by simp⟩
  | c :: xs, h => by
    obtain ⟨l, h1, h2⟩ := choose_map xs (fun c hc => h c (List.mem_cons_of_mem _ hc))
    obtain ⟨a, rfl, ha⟩ := h c (by simp)
    exact ⟨a :: l, by simp [h1], fun b hb => by
      rcases List.mem_cons.1 hb with e | e
      · subst e; exact ha
      · exact h2 b e⟩

theorem WTs.cons_inv {P : Program} {t : TypeId} {ts : List TypeId} {vs : List V} (h : WTs P (t :: ts) vs) {m : Nat} {sh : List Sh} (hs : shOf P m t = some sh) : ∃ xs r, vs = argV P t xs :: r ∧ Sh.oks sh xs ∧ WTs P ts r := by
  cases h with
  | cons h r => exact ⟨_, _, rfl, shOf_ok _ _ _ _ _ hs h, r⟩
theorem WTs.nil_inv {P : Program} {vs : List V} (h : WTs P [] vs) : vs = [] := by
  cases h; rfl
theorem argV_agg {P : Program} {t : TypeId} (h : isAggT P t = true) (xs : List T) : argV P t xs = .agg (xs.map V.t) := by simp [argV, h]
theorem argV_one {P : Program} {t : TypeId} (h : isAggT P t = false) (x : T) : argV P t [x] = .t x := by simp [argV, h]

/-- 'law_contract', its facts as Booleans -/
theorem law_ok {H : Type} {enc : TypeId × Value → H} {P : Program} (S : List TypeId) {f : FuncId} {fn : Func} {s : ChangeSpec} {tb : TypeId} {apart fresh handsOn again : Bool} (hp : plainT P S = true) (hl : laidOutB P = true)
    (hT : (fn.params.toList.all fun t => S.contains t && P.readableRec t && decide (t < P.types.size)) = true)
    (hrt : fn.resultTypes = #[tb]) (hb : P.underlying tb = some .bool) (hv : s.vars = []) (hs : ∀ ds : List (DataW H), ds.length = fn.params.size → s.fn H ds = { results := [.lit (.bool true)], args := ds })
    (W : World) (base : Nat) (args : Array Value) (ds gs : List (DataW H)) (before : List MemPlace)
    (hval : ∀ (j : Nat) t v, fn.params[j]? = some t → args[j]? = some v → Value.okWide P W .any base t v)
    (hW : DataW.Whole enc P fn.params.toList s.vars apart W args.toList ds gs before)
    (hok : ∀ vs, WTs P fn.params.toList vs → FnOk P f vs ⟨[], 0⟩ { v := .t (.bool true) }) :
    Calls P f args W fun e W' => ∃ v, e = .returned v ∧ s.post enc P fn apart fresh handsOn again W args v W' := by
  refine law_contract (S := S) hp hl (fun t ht => ?_) hrt hb hv hs W base args ds gs before hval hW hok
  rw [List.all_eq_true] at hT
  have := hT t ht
  simp only [Bool.and_eq_true, decide_eq_true_eq, List.contains_iff_mem] at this
  exact ⟨this.1.1, this.1.2, this.2⟩

theorem len1 {α : Type} {l : List α} (h : l.length = 1) : ∃ a, l = [a] := by
  match l, h with
  | [a], _ => exact ⟨a, rfl⟩
theorem len2 {α : Type} {l : List α} (h : l.length = 2) : ∃ a b, l = [a, b] := by
  match l, h with
  | [a, b], _ => exact ⟨a, b, rfl⟩
theorem len3 {α : Type} {l : List α} (h : l.length = 3) : ∃ a b c, l = [a, b, c] := by
  match l, h with
  | [a, b, c], _ => exact ⟨a, b, c, rfl⟩

theorem arr2 {α : Type} {l : Array α} (h : l.size = 2) : ∃ a b, l = #[a, b] := by
  obtain ⟨l⟩ := l
  obtain ⟨a, b, rfl⟩ := len2 (l := l) (by simpa using h)
  exact ⟨a, b, rfl⟩

/-- a function with a body -/
theorem hasB_of {P : Program} {f : FuncId} {fn : Func} {args : Array Value} {w : World} (h : P.funcs[f]? = some fn) (hb : (fn.body.isSome && !(fn.name == "runtime.NumGoroutine")) = true) : (callFunc f args).run P w = .ok (.enter f args) w := by
  simp only [Bool.and_eq_true, Bool.not_eq_true'] at hb
  obtain ⟨c, hc⟩ := Option.isSome_iff_exists.1 hb.1
  simp only [callFunc]
  simp [program, Sem.run, h, hc]
  have := hb.2
  simp at this
  simp [this]

end Go.GB
