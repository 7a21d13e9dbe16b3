/-
  YtilonlfmalfofaaP8: lemmas of this proof (part 8). No conditions.
-/
import Derived.Test.YtilonlfmalfofaaP7
import Derived.Test.YtilonlfmalfofaaP5
import Derived.Handed

/-
  GbZA: shapes of plain types: what a law is handed, taken apart.
-/
namespace Go.GB
open Go.RowKit Go.WideShapes Go.ChangeShapes

inductive Sh where
  | bool
  | int (k : IntKind)
  | str
  | lst (b : Nat) (s : List Sh)
  | any
  | num (i : Nat)

/-- fields side by side -/
def joinSh (P : Program) (g : TypeId → Option (List Sh)) : Nat → List (Nat × TypeId) → Option (List Sh)
  | _, [] => some []
  | off, (o, t) :: r =>
    if o = off then
      match g t with
      | some a => if a.length = P.cellsOf t then (joinSh P g (off + P.cellsOf t) r).map fun b => a ++ b else none
      | none => none
    else none

def shOf (P : Program) (sp : TypeId → Option Nat) : Nat → TypeId → Option (List Sh)
  | 0, t =>
    match P.underlying t with
    | some .bool => some [.bool]
    | some (.int k) => some [.int k]
    | some .string => some [.str]
    | some (.slice e) => match sp e with | some i => some [.num i] | none => some [.any]
    | _ => none
  | n + 1, t =>
    match P.underlying t with
    | some .bool => some [.bool]
    | some (.int k) => some [.int k]
    | some .string => some [.str]
    | some (.slice e) => match sp e with | some i => some [.num i] | none => (shOf P sp n e).map fun s => [.lst (P.bytesOf e) s]
    | some (.struct fs) => (joinSh P (shOf P sp n) 0 (fs.toList.map fun f => (f.offset, f.type))).bind fun s => if s.length = P.cellsOf t then some s else none
    | some (.array m e) => (joinSh P (shOf P sp n) 0 ((List.range m).map fun i => (i * P.cellsOf e, e))).bind fun s => if s.length = P.cellsOf t then some s else none
    | _ => none

mutual
/-- a tree of that shape; numbers stand for lists of types that contain themselves -/
def Sh.ok (Y : Nat → T → Prop) : Sh → T → Prop
  | .bool, x => ∃ b, x = .bool b
  | .int k, x => ∃ n, x = .int k n ∧ (Lit.int k n).wf = true
  | .str, x => ∃ s, x = .str s ∧ s.length ≤ maxLen
  | .lst b sh, x => ∃ xs : List (List T), x = .lst xs ∧ xs.length * b ≤ reachBytes ∧ xs.length ≤ maxLen ∧ ∀ c ∈ xs, Sh.oks Y sh c
  | .any, _ => True
  | .num i, x => Y i x
def Sh.oks (Y : Nat → T → Prop) : List Sh → List T → Prop
  | [], [] => True
  | s :: r, x :: ts => s.ok Y x ∧ Sh.oks Y r ts
  | _, _ => False
end

theorem Sh.oks_append {Y : Nat → T → Prop} : ∀ {a b : List Sh} {ts us : List T}, Sh.oks Y a ts → Sh.oks Y b us → Sh.oks Y (a ++ b) (ts ++ us)
  | [], b, [], us, _, h => h
  | [], b, x :: ts, us, h, _ => by simp [Sh.oks] at h
  | s :: r, b, [], us, h, _ => by simp [Sh.oks] at h
  | s :: r, b, x :: ts, us, h, k => by
    simp only [Sh.oks, List.cons_append] at h ⊢
    exact ⟨h.1, Sh.oks_append h.2 k⟩
theorem Sh.oks_length {Y : Nat → T → Prop} : ∀ {a : List Sh} {ts : List T}, Sh.oks Y a ts → a.length = ts.length
  | [], [], _ => rfl
  | [], x :: ts, h => by simp [Sh.oks] at h
  | s :: r, [], h => by simp [Sh.oks] at h
  | s :: r, x :: ts, h => by
    simp only [Sh.oks] at h
    simp [Sh.oks_length h.2]

theorem joinSh_ok {P : Program} {Y : Nat → T → Prop} {g : TypeId → Option (List Sh)} {n : Nat} (hg : ∀ t sh ts, g t = some sh → WT P n t ts → Sh.oks Y sh ts) : ∀ (l : List (Nat × TypeId)) (off : Nat) (sh : List Sh) (ts : List T), joinSh P g off l = some sh → (∀ p ∈ l, WT P n p.2 ((ts.drop p.1).take (P.cellsOf p.2))) →
    ∃ us, Sh.oks Y sh us ∧ us = (ts.drop off).take sh.length
  | [], off, sh, ts, h, _ => by simp [joinSh] at h; subst h; exact ⟨[], trivial, by simp⟩
  | (o, t) :: r, off, sh, ts, h, hp => by
    simp only [joinSh] at h
    split at h
    · rename_i e; subst e
      split at h
      · rename_i a ha
        split at h
        · rename_i hl
          simp only [Option.map_eq_some_iff] at h
          obtain ⟨b, hb, rfl⟩ := h
          have h1 := hg t a _ ha (hp (o, t) (by simp))
          obtain ⟨us, h2, h3⟩ := joinSh_ok hg r _ b ts hb fun p hpm => hp p (List.mem_cons_of_mem _ hpm)
          refine ⟨_, Sh.oks_append h1 h2, ?_⟩
          simp only at h1 ⊢
          rw [h3, List.length_append, hl, List.take_add, List.drop_drop]
        · cases h
      · cases h
    · cases h

theorem shOf_ok {P : Program} {sp : TypeId → Option Nat} {Y : Nat → T → Prop} : ∀ (n m : Nat) (t : TypeId) (sh : List Sh) (ts : List T), (∀ e i k xs, k < n → sp e = some i → xs.length * P.bytesOf e ≤ reachBytes → xs.length ≤ maxLen → (∀ c ∈ xs, WT P k e c) → Y i (.lst xs)) → shOf P sp m t = some sh → WT P n t ts → Sh.oks Y sh ts
  | 0, m, t, sh, ts, _, _, h => by simp [WT] at h
  | n + 1, 0, t, sh, ts, hsp, hs, h => by
    simp only [shOf] at hs
    simp only [WT] at h
    cases hu : P.underlying t with
    | none => rw [hu] at h; exact h.elim
    | some td =>
      rw [hu] at h hs
      cases td with
      | bool => simp only [Option.some.injEq] at hs h; subst hs; obtain ⟨b, rfl⟩ := h; exact ⟨⟨b, rfl⟩, trivial⟩
      | int k => simp at hs h; subst hs; obtain ⟨x, rfl, hw⟩ := h; exact ⟨⟨x, rfl, hw⟩, trivial⟩
      | string => simp at hs h; subst hs; obtain ⟨s, rfl, hw⟩ := h; exact ⟨⟨s, rfl, hw⟩, trivial⟩
      | slice e =>
        obtain ⟨xs, rfl, hr, hl, hc⟩ := h
        cases he : sp e with
        | none => simp only [he, Option.some.injEq] at hs; subst hs; exact ⟨trivial, trivial⟩
        | some i => simp only [he, Option.some.injEq] at hs; subst hs; exact ⟨hsp e i n xs (by omega) he hr hl hc, trivial⟩
      | _ => simp at hs
  | n + 1, m + 1, t, sh, ts, hsp, hs, h => by
    have hsp' : ∀ e i k xs, k < n → sp e = some i → xs.length * P.bytesOf e ≤ reachBytes → xs.length ≤ maxLen → (∀ c ∈ xs, WT P k e c) → Y i (.lst xs) := fun e i k xs hk => hsp e i k xs (by omega)
    simp only [shOf] at hs
    simp only [WT] at h
    cases hu : P.underlying t with
    | none => rw [hu] at h; exact h.elim
    | some td =>
      rw [hu] at h hs
      cases td with
      | bool => simp only [Option.some.injEq] at hs h; subst hs; obtain ⟨b, rfl⟩ := h; exact ⟨⟨b, rfl⟩, trivial⟩
      | int k => simp at hs h; subst hs; obtain ⟨x, rfl, hw⟩ := h; exact ⟨⟨x, rfl, hw⟩, trivial⟩
      | string => simp at hs h; subst hs; obtain ⟨s, rfl, hw⟩ := h; exact ⟨⟨s, rfl, hw⟩, trivial⟩
      | slice e =>
        obtain ⟨xs, rfl, hr, hl, hc⟩ := h
        cases hse : sp e with
        | none =>
          simp only [hse, Option.map_eq_some_iff] at hs
          obtain ⟨s, he, rfl⟩ := hs
          exact ⟨⟨xs, rfl, hr, hl, fun c hcm => shOf_ok n m e s c hsp' he (hc c hcm)⟩, trivial⟩
        | some i => simp only [hse, Option.some.injEq] at hs; subst hs; exact ⟨hsp e i n xs (by omega) hse hr hl hc, trivial⟩
      | struct fs =>
        simp only [Option.bind_eq_some_iff] at hs h
        obtain ⟨s, hs, hs2⟩ := hs
        split at hs2
        · rename_i hl
          simp at hs2; subst hs2
          obtain ⟨us, h1, h2⟩ := joinSh_ok (ts := ts) (Y := Y) (g := shOf P sp m) (n := n) (fun t sh ts a b => shOf_ok n m t sh ts hsp' a b) _ 0 s hs (fun p hp => by
            rw [List.mem_map] at hp
            obtain ⟨f, hf, rfl⟩ := hp
            exact h.2 f hf)
          rw [List.drop_zero, List.take_of_length_le (by omega)] at h2
          subst h2; exact h1
        · cases hs2
      | array k e =>
        simp only [Option.bind_eq_some_iff] at hs h
        obtain ⟨s, hs, hs2⟩ := hs
        split at hs2
        · rename_i hl
          simp at hs2; subst hs2
          obtain ⟨us, h1, h2⟩ := joinSh_ok (ts := ts) (Y := Y) (g := shOf P sp m) (n := n) (fun t sh ts a b => shOf_ok n m t sh ts hsp' a b) _ 0 s hs (fun p hp => by
            rw [List.mem_map] at hp
            obtain ⟨i, hi, rfl⟩ := hp
            exact h.2 i (List.mem_range.1 hi))
          rw [List.drop_zero, List.take_of_length_le (by omega)] at h2
          subst h2; exact h1
        · cases hs2
      | _ => simp at h

/-- trees one by one -/
theorem Sh.oks_cons {Y : Nat → T → Prop} {s : Sh} {r : List Sh} {ts : List T} (h : Sh.oks Y (s :: r) ts) : ∃ x ts', ts = x :: ts' ∧ s.ok Y x ∧ Sh.oks Y r ts' := by
  cases ts with
  | nil => simp [Sh.oks] at h
  | cons x ts => exact ⟨x, ts, rfl, h⟩
theorem Sh.oks_nil {Y : Nat → T → Prop} {ts : List T} (h : Sh.oks Y [] ts) : ts = [] := by
  cases ts with
  | nil => rfl
  | cons x ts => simp [Sh.oks] at h

/-- a list whose elements are encodings -/
theorem choose_map {α : Type} {f : α → List T} {Q : α → Prop} : ∀ (xs : List (List T)), (∀ c ∈ xs, ∃ a, c = f a ∧ Q a) → ∃ l : List α, xs = l.map f ∧ ∀ a ∈ l, Q a
  | [], _ => ⟨[], rfl, by simp⟩
  | c :: xs, h => by
    obtain ⟨l, h1, h2⟩ := choose_map xs (fun c hc => h c (List.mem_cons_of_mem _ hc))
    obtain ⟨a, rfl, ha⟩ := h c (by simp)
    exact ⟨a :: l, by simp [h1], fun b hb => by
      rcases List.mem_cons.1 hb with e | e
      · subst e; exact ha
      · exact h2 b e⟩

theorem WTs.cons_inv {P : Program} {t : TypeId} {ts : List TypeId} {vs : List V} (h : WTs P (t :: ts) vs) {m : Nat} {sh : List Sh} {sp : TypeId → Option Nat} {Y : Nat → T → Prop} (hsp : ∀ e i n xs, sp e = some i → xs.length * P.bytesOf e ≤ reachBytes → xs.length ≤ maxLen → (∀ c ∈ xs, WT P n e c) → Y i (.lst xs)) (hs : shOf P sp m t = some sh) : ∃ xs r, vs = argV P t xs :: r ∧ Sh.oks Y sh xs ∧ WTs P ts r := by
  cases h with
  | cons h r => exact ⟨_, _, rfl, shOf_ok _ _ _ _ _ (fun e i k xs _ => hsp e i k xs) hs h, r⟩
theorem WTs.nil_inv {P : Program} {vs : List V} (h : WTs P [] vs) : vs = [] := by
  cases h; rfl
theorem argV_agg {P : Program} {t : TypeId} (h : isAggT P t = true) (xs : List T) : argV P t xs = .agg (xs.map V.t) := by simp [argV, h]
theorem argV_one {P : Program} {t : TypeId} (h : isAggT P t = false) (x : T) : argV P t [x] = .t x := by simp [argV, h]

/-- 'law_contract', its facts as Booleans -/
theorem law_ok {H : Type} {enc : TypeId × Value → H} {P : Program} (S : List TypeId) {f : FuncId} {fn : Func} {s : ChangeSpec} {tb : TypeId} {apart fresh handsOn again : Bool} (hp : plainT P S = true) (hl : laidOutB P = true)
    (hT : (fn.params.toList.all fun t => S.contains t && P.readableRec t && decide (t < P.types.size)) = true)
    (hrt : fn.resultTypes = #[tb]) (hb : P.underlying tb = some .bool) (hv : s.vars = []) (hs : ∀ ds : List (DataW H), ds.length = fn.params.size → s.fn H ds = { results := [.lit (.bool true)], args := ds })
    (W : World) (base : Nat) (args : Array Value) (ds gs : List (DataW H)) (before : List MemPlace)
    (hval : ∀ (j : Nat) t v, fn.params[j]? = some t → args[j]? = some v → Value.okWide P W .any base t v)
    (hW : DataW.Whole enc P fn.params.toList s.vars apart W args.toList ds gs before)
    (hwt : (DataW.weightsEach P (fn.params.toList ++ s.plain.varTypes P) (ds ++ gs)).all (· ≤ reachBytes) = true)
    (hok : ∀ vs, WTs P fn.params.toList vs → FnOk P f vs ⟨[], 0⟩ { v := .t (.bool true) }) :
    Calls P f args W fun e W' => ∃ v, e = .returned v ∧ s.post enc P fn apart fresh handsOn again W args v W' := by
  refine law_contract (S := S) hp hl (fun t ht => ?_) hrt hb hv hs W base args ds gs before hval hW hwt hok
  rw [List.all_eq_true] at hT
  have := hT t ht
  simp only [Bool.and_eq_true, decide_eq_true_eq, List.contains_iff_mem] at this
  exact ⟨this.1.1, this.1.2, this.2⟩

theorem len1 {α : Type} {l : List α} (h : l.length = 1) : ∃ a, l = [a] := by
  match l, h with
  | [a], _ => exact ⟨a, rfl⟩
theorem len2 {α : Type} {l : List α} (h : l.length = 2) : ∃ a b, l = [a, b] := by
  match l, h with
  | [a, b], _ => exact ⟨a, b, rfl⟩
theorem len3 {α : Type} {l : List α} (h : l.length = 3) : ∃ a b c, l = [a, b, c] := by
  match l, h with
  | [a, b, c], _ => exact ⟨a, b, c, rfl⟩

theorem arr2 {α : Type} {l : Array α} (h : l.size = 2) : ∃ a b, l = #[a, b] := by
  obtain ⟨l⟩ := l
  obtain ⟨a, b, rfl⟩ := len2 (l := l) (by simpa using h)
  exact ⟨a, b, rfl⟩

/-- a function with a body -/
theorem hasB_of {P : Program} {f : FuncId} {fn : Func} {args : Array Value} {w : World} (h : P.funcs[f]? = some fn) (hb : (fn.body.isSome && !(fn.name == "runtime.NumGoroutine")) = true) : (callFunc f args).run P w = .ok (.enter f args) w := by
  simp only [Bool.and_eq_true, Bool.not_eq_true'] at hb
  obtain ⟨c, hc⟩ := Option.isSome_iff_exists.1 hb.1
  simp only [callFunc]
  simp [program, Sem.run, h, hc]
  have := hb.2
  simp at this
  simp [this]

end Go.GB

/-
  GbSh: what a law is handed, of package api's types.
-/
namespace Go.GB
open Go.RowKit
set_option linter.unusedSimpArgs false
set_option linter.unusedVariables false

def valSh : List Sh := [.int .i64, .int .i64, .str, .num 0, .lst 16 [.str]]
def argSh : List Sh := .str :: valSh
def dirSh : List Sh := [.str, .lst 96 argSh]
def refSh : List Sh := [.str, .lst 8 [.int .i64]]
def inputSh : List Sh := [.str] ++ refSh ++ [.bool] ++ valSh ++ [.lst 40 dirSh]
def fieldSh : List Sh := [.str, .lst 168 inputSh] ++ refSh ++ [.lst 40 dirSh]
def memberSh : List Sh := [.str, .lst 40 dirSh]
def defSh : List Sh := [.int .i64, .str, .lst 16 [.str], .lst 40 dirSh, .lst 104 fieldSh, .lst 40 memberSh, .lst 168 inputSh]
def docSh : List Sh := [.lst 144 defSh]
def pickSh : List Sh := [.str, .str, .str, .lst 96 argSh] ++ refSh ++ [.str, .int .i64, .num 1]
def userSh : List Sh := [.bool, .lst 16 [.str]]
def hopsSh : List Sh := [.lst 32 [.str, .str]]

/-- lists of types that contain themselves -/
def YA : Nat → T → Prop
  | 0, x => ∃ l : List Val, x = .lst (l.map Val.enc) ∧ l.length * 80 ≤ B47 ∧ ∀ v ∈ l, v.Ok
  | _, x => ∃ l : List Pick, x = .lst (l.map Pick.enc) ∧ l.length * 160 ≤ B47 ∧ ∀ p ∈ l, p.Ok ∧ p.on.length ≤ maxLen

theorem reach_le : reachBytes ≤ 140737488355328 := by decide
theorem maxLen_eq : maxLen = 9223372036854775807 := by decide

theorem strs_of {Y : Nat → T → Prop} {x : T} {b : Nat} (h : (Sh.lst b [.str]).ok Y x) : ∃ l : List Str, x = .lst (l.map sE) ∧ l.length * b ≤ reachBytes ∧ ∀ s ∈ l, s.length ≤ maxLen := by
  obtain ⟨xs, rfl, h1, _, h2⟩ := h
  obtain ⟨l, rfl, h3⟩ := choose_map (f := sE) (Q := fun s => s.length ≤ maxLen) xs fun c hc => by
    obtain ⟨x, r, rfl, ⟨s, rfl, hs⟩, h⟩ := Sh.oks_cons (h2 c hc)
    obtain rfl := Sh.oks_nil h
    exact ⟨s, rfl, hs⟩
  exact ⟨l, rfl, by simpa using h1, h3⟩
theorem nums_of {Y : Nat → T → Prop} {x : T} {b : Nat} (h : (Sh.lst b [.int .i64]).ok Y x) : ∃ l : List Int, x = .lst (l.map nE) ∧ l.length * b ≤ reachBytes := by
  obtain ⟨xs, rfl, h1, _, h2⟩ := h
  obtain ⟨l, rfl, h3⟩ := choose_map (f := nE) (Q := fun _ => True) xs fun c hc => by
    obtain ⟨x, r, rfl, ⟨s, rfl, hs⟩, h⟩ := Sh.oks_cons (h2 c hc)
    obtain rfl := Sh.oks_nil h
    exact ⟨s, rfl, trivial⟩
  exact ⟨l, rfl, by simpa using h1⟩
theorem list_of {α : Type} {f : α → List T} {Q : α → Prop} {Y : Nat → T → Prop} {x : T} {b : Nat} {sh : List Sh} (hf : ∀ c, Sh.oks Y sh c → ∃ a, c = f a ∧ Q a) (h : (Sh.lst b sh).ok Y x) : ∃ l : List α, x = .lst (l.map f) ∧ l.length * b ≤ reachBytes ∧ l.length ≤ maxLen ∧ ∀ a ∈ l, Q a := by
  obtain ⟨xs, rfl, h1, h0, h2⟩ := h
  obtain ⟨l, rfl, h3⟩ := choose_map (f := f) (Q := Q) xs fun c hc => hf c (h2 c hc)
  exact ⟨l, rfl, by simpa using h1, by simpa using h0, h3⟩

/-- the shape of a value -/
theorem val_sh {r : List Sh} {c : List T} (h : Sh.oks YA (valSh ++ r) c) : ∃ (v : Val) (c' : List T), c = v.cs ++ c' ∧ v.Ok ∧ Sh.oks YA r c' := by
  obtain ⟨x1, c, rfl, ⟨k, rfl, _⟩, g1⟩ := Sh.oks_cons h
  obtain ⟨x2, c, rfl, ⟨i, rfl, _⟩, g2⟩ := Sh.oks_cons g1
  obtain ⟨x3, c, rfl, ⟨t, rfl, ht⟩, g3⟩ := Sh.oks_cons g2
  obtain ⟨x4, c, rfl, ⟨its, rfl, hi1, hi2⟩, g4⟩ := Sh.oks_cons g3
  obtain ⟨x5, c, rfl, hk, g5⟩ := Sh.oks_cons g4
  obtain ⟨ks, rfl, hk1, hk2⟩ := strs_of hk
  have := reach_le
  refine ⟨.mk k i t its ks, c, rfl, .mk hi1 (by unfold B47; omega) hi2 (by rw [maxLen_eq] at ht; exact ht) (fun x hx => by have := hk2 x hx; rw [maxLen_eq] at this; exact this), g5⟩
theorem val_sh0 {c : List T} (h : Sh.oks YA valSh c) : ∃ v : Val, c = v.enc ∧ v.Ok := by
  obtain ⟨v, c', rfl, h1, h2⟩ := val_sh (r := []) (by simpa using h)
  obtain rfl := Sh.oks_nil h2
  exact ⟨v, by rw [Val.enc_eq, List.append_nil], h1⟩
theorem arg_sh {c : List T} (h : Sh.oks YA argSh c) : ∃ a : Arg, c = a.enc ∧ a.Ok := by
  obtain ⟨x, c, rfl, ⟨n, rfl, _⟩, g1⟩ := Sh.oks_cons h
  obtain ⟨v, c', rfl, h1, h2⟩ := val_sh (r := []) (by simpa using g1)
  obtain rfl := Sh.oks_nil h2
  exact ⟨⟨n, v⟩, by simp [Arg.enc, Val.cs], h1⟩
theorem dir_sh {c : List T} (h : Sh.oks YA dirSh c) : ∃ a : Dir, c = a.enc ∧ a.Ok := by
  have := reach_le
  obtain ⟨x, c, rfl, ⟨n, rfl, _⟩, g1⟩ := Sh.oks_cons h
  obtain ⟨x, c, rfl, hx, g2⟩ := Sh.oks_cons g1
  obtain rfl := Sh.oks_nil g2
  obtain ⟨l, rfl, h1, _, h2⟩ := list_of (fun c hc => arg_sh hc) hx
  exact ⟨⟨n, l⟩, rfl, ⟨by show l.length ≤ _; omega, h2⟩⟩
theorem dirs_sh {b : Nat} (hb : 0 < b) {x : T} (h : (Sh.lst b dirSh).ok YA x) : ∃ l : List Dir, x = .lst (l.map Dir.enc) ∧ l.length ≤ 140737488355328 ∧ ∀ d ∈ l, d.Ok := by
  have := reach_le
  obtain ⟨l, rfl, h1, _, h2⟩ := list_of (fun c hc => dir_sh hc) h
  refine ⟨l, rfl, ?_, h2⟩
  have : l.length ≤ l.length * b := Nat.le_mul_of_pos_right _ hb
  omega
theorem ref_sh {r : List Sh} {c : List T} (h : Sh.oks YA (refSh ++ r) c) : ∃ (v : Ref) (c' : List T), c = .str v.name :: .lst (v.wraps.map nE) :: c' ∧ v.Ok ∧ Sh.oks YA r c' := by
  have := reach_le
  obtain ⟨x1, c, rfl, ⟨n, rfl, _⟩, g1⟩ := Sh.oks_cons h
  obtain ⟨x5, c, rfl, hk, g2⟩ := Sh.oks_cons g1
  obtain ⟨ks, rfl, hk1⟩ := nums_of hk
  exact ⟨⟨n, ks⟩, c, rfl, ⟨by show ks.length * 8 ≤ _; omega⟩, g2⟩
theorem input_sh {c : List T} (h : Sh.oks YA inputSh c) : ∃ a : Input, c = a.enc ∧ a.Ok := by
  obtain ⟨x, c, rfl, ⟨n, rfl, _⟩, g1⟩ := Sh.oks_cons h
  obtain ⟨t, c, rfl, ht, g2⟩ := ref_sh g1
  obtain ⟨x, c, rfl, ⟨b, rfl⟩, g3⟩ := Sh.oks_cons g2
  obtain ⟨v, c, rfl, hv, g4⟩ := val_sh g3
  obtain ⟨x, c, rfl, hx, g5⟩ := Sh.oks_cons g4
  obtain rfl := Sh.oks_nil g5
  obtain ⟨l, rfl, h1, h2⟩ := dirs_sh (by decide) hx
  exact ⟨⟨n, t, b, v, l⟩, by simp [Input.enc, Val.cs], ⟨ht, hv, h1, h2⟩⟩
theorem inputs_sh {x : T} (h : (Sh.lst 168 inputSh).ok YA x) : ∃ l : List Input, x = .lst (l.map Input.enc) ∧ l.length ≤ 140737488355328 ∧ ∀ d ∈ l, d.Ok := by
  have := reach_le
  obtain ⟨l, rfl, h1, _, h2⟩ := list_of (fun c hc => input_sh hc) h
  exact ⟨l, rfl, by omega, h2⟩
theorem field_sh {c : List T} (h : Sh.oks YA fieldSh c) : ∃ a : Field, c = a.enc ∧ a.Ok := by
  obtain ⟨x, c, rfl, ⟨n, rfl, _⟩, g1⟩ := Sh.oks_cons h
  obtain ⟨x, c, rfl, hx, g2⟩ := Sh.oks_cons g1
  obtain ⟨ins, rfl, i1, i2⟩ := inputs_sh hx
  obtain ⟨t, c, rfl, ht, g3⟩ := ref_sh g2
  obtain ⟨x, c, rfl, hx, g4⟩ := Sh.oks_cons g3
  obtain rfl := Sh.oks_nil g4
  obtain ⟨l, rfl, h1, h2⟩ := dirs_sh (by decide) hx
  exact ⟨⟨n, ins, t, l⟩, rfl, ⟨i1, i2, ht, h1, h2⟩⟩
theorem member_sh {c : List T} (h : Sh.oks YA memberSh c) : ∃ a : Member, c = a.enc ∧ a.Ok := by
  obtain ⟨x, c, rfl, ⟨n, rfl, _⟩, g1⟩ := Sh.oks_cons h
  obtain ⟨x, c, rfl, hx, g2⟩ := Sh.oks_cons g1
  obtain rfl := Sh.oks_nil g2
  obtain ⟨l, rfl, h1, h2⟩ := dirs_sh (by decide) hx
  exact ⟨⟨n, l⟩, rfl, ⟨h1, h2⟩⟩
theorem def_sh {c : List T} (h : Sh.oks YA defSh c) : ∃ a : Def, c = a.enc ∧ a.Ok := by
  have := reach_le
  obtain ⟨x, c, rfl, ⟨k, rfl, _⟩, g1⟩ := Sh.oks_cons h
  obtain ⟨x, c, rfl, ⟨n, rfl, _⟩, g2⟩ := Sh.oks_cons g1
  obtain ⟨x, c, rfl, hx, g3⟩ := Sh.oks_cons g2
  obtain ⟨im, rfl, a1, _⟩ := strs_of hx
  obtain ⟨x, c, rfl, hx, g4⟩ := Sh.oks_cons g3
  obtain ⟨ds, rfl, b1, b2⟩ := dirs_sh (by decide) hx
  obtain ⟨x, c, rfl, hx, g5⟩ := Sh.oks_cons g4
  obtain ⟨fs, rfl, c1, _, c2⟩ := list_of (fun c hc => field_sh hc) hx
  obtain ⟨x, c, rfl, hx, g6⟩ := Sh.oks_cons g5
  obtain ⟨ms, rfl, d1, _, d2⟩ := list_of (fun c hc => member_sh hc) hx
  obtain ⟨x, c, rfl, hx, g7⟩ := Sh.oks_cons g6
  obtain ⟨is, rfl, e1, e2⟩ := inputs_sh hx
  obtain rfl := Sh.oks_nil g7
  exact ⟨⟨k, n, im, ds, fs, ms, is⟩, rfl, ⟨by show im.length ≤ _; omega, b1, b2, by show fs.length ≤ _; omega, c2, by show ms.length ≤ _; omega, d2, e1, e2⟩⟩
theorem doc_sh {r : List Sh} {c : List T} (h : Sh.oks YA (docSh ++ r) c) : ∃ (l : List Def) (c' : List T), c = .lst (l.map Def.enc) :: c' ∧ DocOk l ∧ Sh.oks YA r c' := by
  have := reach_le
  obtain ⟨x, c, rfl, hx, g1⟩ := Sh.oks_cons h
  obtain ⟨l, rfl, h1, _, h2⟩ := list_of (fun c hc => def_sh hc) hx
  exact ⟨l, c, rfl, ⟨by omega, h2⟩, g1⟩
theorem user_sh {r : List Sh} {c : List T} (h : Sh.oks YA (userSh ++ r) c) : ∃ (u : User) (c' : List T), c = .bool u.known :: .lst (u.scopes.map sE) :: c' ∧ u.scopes.length ≤ 140737488355328 ∧ Sh.oks YA r c' := by
  have := reach_le
  obtain ⟨x, c, rfl, ⟨k, rfl⟩, g1⟩ := Sh.oks_cons h
  obtain ⟨x, c, rfl, hx, g2⟩ := Sh.oks_cons g1
  obtain ⟨im, rfl, a1, _⟩ := strs_of hx
  exact ⟨⟨k, im⟩, c, rfl, by show im.length ≤ _; omega, g2⟩
theorem hops_sh {r : List Sh} {c : List T} (h : Sh.oks YA (hopsSh ++ r) c) : ∃ (l : List Hop) (c' : List T), c = .lst (l.map Hop.enc) :: c' ∧ l.length ≤ 140737488355328 ∧ Sh.oks YA r c' := by
  have := reach_le
  obtain ⟨x, c, rfl, hx, g1⟩ := Sh.oks_cons h
  obtain ⟨l, rfl, h1, _, h2⟩ := list_of (f := Hop.enc) (Q := fun _ => True) (fun c hc => by
    obtain ⟨x, c, rfl, ⟨a, rfl, _⟩, g2⟩ := Sh.oks_cons hc
    obtain ⟨x, c, rfl, ⟨b, rfl, _⟩, g3⟩ := Sh.oks_cons g2
    obtain rfl := Sh.oks_nil g3
    exact ⟨⟨a, b⟩, rfl, trivial⟩) hx
  exact ⟨l, c, rfl, by omega, g1⟩
theorem pick_sh {c : List T} (h : Sh.oks YA pickSh c) : ∃ p : Pick, c = p.enc ∧ p.Ok ∧ p.on.length ≤ maxLen := by
  have := reach_le
  obtain ⟨x, c, rfl, ⟨k, rfl, _⟩, g1⟩ := Sh.oks_cons h
  obtain ⟨x, c, rfl, ⟨o, rfl, ho⟩, g2⟩ := Sh.oks_cons g1
  obtain ⟨x, c, rfl, ⟨n, rfl, _⟩, g3⟩ := Sh.oks_cons g2
  obtain ⟨x, c, rfl, hx, g4⟩ := Sh.oks_cons g3
  obtain ⟨as, rfl, a1, _, a2⟩ := list_of (fun c hc => arg_sh hc) hx
  obtain ⟨t, c, rfl, ht, g5⟩ := ref_sh g4
  obtain ⟨x, c, rfl, ⟨lb, rfl, _⟩, g6⟩ := Sh.oks_cons g5
  obtain ⟨x, c, rfl, ⟨i, rfl, _⟩, g7⟩ := Sh.oks_cons g6
  obtain ⟨x, c, rfl, ⟨ps, rfl, p1, p2⟩, g8⟩ := Sh.oks_cons g7
  obtain rfl := Sh.oks_nil g8
  exact ⟨.mk k o n as t lb i ps, by rw [Pick.enc_eq]; rfl, .mk (by unfold B47; omega) a2 ht p1 (fun x hx => (p2 x hx).1), ho⟩

/-- the types that contain themselves -/
def spV (vt : TypeId) (e : TypeId) : Option Nat := if e = vt then some 0 else none
def spA (vt pt : TypeId) (e : TypeId) : Option Nat := if e = vt then some 0 else if e = pt then some 1 else none

theorem val_wt {P : Program} {vt : TypeId} (hb : P.bytesOf vt = 80) (hs : shOf P (spV vt) 6 vt = some valSh) : ∀ (n : Nat) (c : List T), WT P n vt c → ∃ v : Val, c = v.enc ∧ v.Ok := by
  intro n
  induction n using Nat.strongRecOn with
  | _ n ih =>
    intro c h
    refine val_sh0 (shOf_ok (Y := YA) n 6 vt valSh c (fun e i k xs hk he hr hl hc => ?_) hs h)
    unfold spV at he
    split at he
    · rename_i e1; subst e1
      simp only [Option.some.injEq] at he; subst he
      obtain ⟨l, rfl, h3⟩ := choose_map (f := Val.enc) (Q := Val.Ok) xs fun c hcm => ih k hk c (hc c hcm)
      have := reach_le
      rw [hb] at hr
      exact ⟨l, rfl, by unfold B47; simp at hr; omega, h3⟩
    · cases he
theorem pick_wt {P : Program} {vt pt : TypeId} (hb : P.bytesOf vt = 80) (hs : shOf P (spV vt) 6 vt = some valSh) (hbp : P.bytesOf pt = 160) (hsp : shOf P (spA vt pt) 6 pt = some pickSh) : ∀ (n : Nat) (c : List T), WT P n pt c → ∃ p : Pick, c = p.enc ∧ p.Ok ∧ p.on.length ≤ maxLen := by
  have hv := val_wt hb hs
  intro n
  induction n using Nat.strongRecOn with
  | _ n ih =>
    intro c h
    refine pick_sh (shOf_ok (Y := YA) n 6 pt pickSh c (fun e i k xs hk he hr hl hc => ?_) hsp h)
    have := reach_le
    unfold spA at he
    split at he
    · rename_i e1; subst e1
      simp only [Option.some.injEq] at he; subst he
      obtain ⟨l, rfl, h3⟩ := choose_map (f := Val.enc) (Q := Val.Ok) xs fun c hcm => hv k c (hc c hcm)
      rw [hb] at hr
      exact ⟨l, rfl, by unfold B47; simp at hr; omega, h3⟩
    · split at he
      · rename_i _ e1; subst e1
        simp only [Option.some.injEq] at he; subst he
        obtain ⟨l, rfl, h3⟩ := choose_map (f := Pick.enc) (Q := fun p => p.Ok ∧ p.on.length ≤ maxLen) xs fun c hcm => ih k hk c (hc c hcm)
        rw [hbp] at hr
        exact ⟨l, rfl, by unfold B47; simp at hr; omega, h3⟩
      · cases he
/-- what 'WTs.cons_inv' asks for -/
theorem spA_ok {P : Program} {vt pt : TypeId} (hb : P.bytesOf vt = 80) (hs : shOf P (spV vt) 6 vt = some valSh) (hbp : P.bytesOf pt = 160) (hsp : shOf P (spA vt pt) 6 pt = some pickSh) :
    ∀ e i n xs, spA vt pt e = some i → xs.length * P.bytesOf e ≤ reachBytes → xs.length ≤ maxLen → (∀ c ∈ xs, WT P n e c) → YA i (.lst xs) := by
  have hv := val_wt hb hs
  have hp := pick_wt hb hs hbp hsp
  intro e i k xs he hr hl hc
  have := reach_le
  unfold spA at he
  split at he
  · rename_i e1; subst e1
    simp only [Option.some.injEq] at he; subst he
    obtain ⟨l, rfl, h3⟩ := choose_map (f := Val.enc) (Q := Val.Ok) xs fun c hcm => hv k c (hc c hcm)
    rw [hb] at hr
    exact ⟨l, rfl, by unfold B47; simp at hr; omega, h3⟩
  · split at he
    · rename_i _ e1; subst e1
      simp only [Option.some.injEq] at he; subst he
      obtain ⟨l, rfl, h3⟩ := choose_map (f := Pick.enc) (Q := fun p => p.Ok ∧ p.on.length ≤ maxLen) xs fun c hcm => hp k c (hc c hcm)
      rw [hbp] at hr
      exact ⟨l, rfl, by unfold B47; simp at hr; omega, h3⟩
    · cases he
theorem picks_sh {r : List Sh} {c : List T} (h : Sh.oks YA (.num 1 :: r) c) : ∃ (l : List Pick) (c' : List T), c = .lst (l.map Pick.enc) :: c' ∧ l.length ≤ 140737488355328 ∧ (∀ p, p ∈ l → p.Ok) ∧ (∀ p, p ∈ l → p.on.length ≤ 9223372036854775807) ∧ Sh.oks YA r c' := by
  obtain ⟨x, c, rfl, ⟨l, rfl, h1, h2⟩, g1⟩ := Sh.oks_cons h
  unfold B47 at h1
  exact ⟨l, c, rfl, by omega, fun p hp => (h2 p hp).1, fun p hp => by have := (h2 p hp).2; rwa [maxLen_eq] at this, g1⟩
theorem len4 {α : Type} {l : List α} (h : l.length = 4) : ∃ a b c d, l = [a, b, c, d] := by
  match l, h with
  | [a, b, c, d], _ => exact ⟨a, b, c, d, rfl⟩
/-- shapes that end there -/
theorem doc_sh0 {c : List T} (h : Sh.oks YA docSh c) : ∃ l : List Def, c = [.lst (l.map Def.enc)] ∧ DocOk l := by
  obtain ⟨l, c', rfl, h1, h2⟩ := doc_sh (r := []) h
  obtain rfl := Sh.oks_nil h2
  exact ⟨l, rfl, h1⟩
theorem user_sh0 {c : List T} (h : Sh.oks YA userSh c) : ∃ u : User, c = [.bool u.known, .lst (u.scopes.map sE)] ∧ u.scopes.length ≤ 140737488355328 := by
  obtain ⟨l, c', rfl, h1, h2⟩ := user_sh (r := []) h
  obtain rfl := Sh.oks_nil h2
  exact ⟨l, rfl, h1⟩
theorem hops_sh0 {c : List T} (h : Sh.oks YA hopsSh c) : ∃ l : List Hop, c = [.lst (l.map Hop.enc)] ∧ l.length ≤ 140737488355328 := by
  obtain ⟨l, c', rfl, h1, h2⟩ := hops_sh (r := []) h
  obtain rfl := Sh.oks_nil h2
  exact ⟨l, rfl, h1⟩
theorem str_sh0 {c : List T} (h : Sh.oks YA [.str] c) : ∃ s : Str, c = [.str s] := by
  obtain ⟨x, c, rfl, ⟨s, rfl, _⟩, g⟩ := Sh.oks_cons h
  obtain rfl := Sh.oks_nil g
  exact ⟨s, rfl⟩
end Go.GB

/-
  A40Q: the arguments of chapter 40's laws.
-/
namespace Go.GB.C43
open Go.GB
theorem picks160_sh {r : List Sh} {c : List T} (h : Sh.oks YA (.num 1 :: r) c) : ∃ (l : List Pick) (c' : List T), c = .lst (l.map Pick.enc) :: c' ∧ l.length * 160 ≤ 140737488355328 ∧ (∀ p, p ∈ l → p.Ok) ∧ Sh.oks YA r c' := by
  obtain ⟨x, c, rfl, ⟨l, rfl, h1, h2⟩, g1⟩ := Sh.oks_cons h
  unfold B47 at h1
  exact ⟨l, c, rfl, by omega, fun p hp => (h2 p hp).1, g1⟩
theorem pick_sh0 {c : List T} (h : Sh.oks YA pickSh c) : ∃ p : Pick, c = p.cs ∧ p.Ok := by
  obtain ⟨p, rfl, h1, _⟩ := pick_sh h
  exact ⟨p, Pick.enc_eq p, h1⟩
def plainSh40 : List Sh := [.int .i64, .num 1]
theorem plain_sh0 {c : List T} (h : Sh.oks YA plainSh40 c) : ∃ (kd : Int) (l : List Pick), c = [.int .i64 kd, .lst (l.map Pick.enc)] ∧ l.length * 160 ≤ 140737488355328 ∧ (∀ p, p ∈ l → p.Ok) := by
  obtain ⟨x, c, rfl, ⟨kd, rfl, _⟩, g1⟩ := Sh.oks_cons h
  obtain ⟨l, c', rfl, h1, h2, g2⟩ := picks160_sh g1
  obtain rfl := Sh.oks_nil g2
  exact ⟨kd, l, rfl, h1, h2⟩
def case40Sh : List Sh := docSh ++ (.str :: (.num 1 :: valSh))
theorem case40_sh {c : List T} (h : Sh.oks YA case40Sh c) : ∃ (ds : List Def) (root : Str) (l : List Pick) (v : Val),
    c = [.lst (ds.map Def.enc), .str root, .lst (l.map Pick.enc), .int .i64 v.kind, .int .i64 v.int, .str v.text, .lst (v.items.map Val.enc), .lst (v.keys.map sE)] ∧
    DocOk ds ∧ l.length * 160 ≤ 140737488355328 ∧ (∀ p, p ∈ l → p.Ok) ∧ v.Ok := by
  obtain ⟨ds, c1, rfl, h1, g1⟩ := doc_sh h
  obtain ⟨x, c2, rfl, ⟨root, rfl, _⟩, g2⟩ := Sh.oks_cons g1
  obtain ⟨l, c3, rfl, h2, h3, g3⟩ := picks160_sh g2
  obtain ⟨v, c4, rfl, h6, g4⟩ := val_sh (r := []) (by simpa using g3)
  obtain rfl := Sh.oks_nil g4
  exact ⟨ds, root, l, v, by simp [Val.cs], h1, h2, h3, h6⟩
theorem int_sh0 {c : List T} (h : Sh.oks YA [.int .i64] c) : ∃ n : Int, c = [.int .i64 n] ∧ -9223372036854775808 ≤ n ∧ n ≤ 9223372036854775807 := by
  obtain ⟨x, c, rfl, ⟨n, rfl, hw⟩, g1⟩ := Sh.oks_cons h
  obtain rfl := Sh.oks_nil g1
  refine ⟨n, rfl, ?_⟩
  have h1 : IntKind.i64.min = -9223372036854775808 := by decide
  have h2 : IntKind.i64.max = 9223372036854775807 := by decide
  simp [Lit.wf, h1, h2] at hw
  omega
end Go.GB.C43

/-
  GbZH: a law's statement with the bound on its arguments' sizes.
-/
namespace Go.GB
open Go.RowKit Go.WideShapes Go.ChangeShapes
theorem handed {H : Type} {enc : TypeId × Value → H} {a : Assume} {C : Checked} {os : Os} {f : FuncId} {fn : Func} {s : ChangeSpec} {conds : List PathCond} {apart fresh handsOn again : Bool}
    (own : ownKnob C.prog.godebug = none) (started : os.Started) (noInit : C.prog.inits.idxOf? f = none) (hfn : C.prog.funcs[f]? = some fn)
    (witness : ∃ (w : World) (tape : Tape) (i : Go.Input), w.os = os ∧ (w.forCall tape i).Shaped C.prog ∧ i.vars = [] ∧ Go.Input.okWide C.prog (w.forCall tape i) .any w.heap.size f i ∧
      s.pre6 enc C.prog fn conds apart (w.forCall tape i).memory i.args ∧ a.holds C.prog (lone (Frame.enter C.prog f i.args .normal) [] (w.forCall tape i)))
    (contract : ∀ (W : World) (base : Nat) (args : Array Value) (ds gs : List (DataW H)) (before : List MemPlace),
      (∀ (j : Nat) t v, fn.params[j]? = some t → args[j]? = some v → Value.okWide C.prog W .any base t v) →
      DataW.Whole enc C.prog fn.params.toList s.vars apart W args.toList ds gs before →
      (DataW.weightsEach C.prog (fn.params.toList ++ s.plain.varTypes C.prog) (ds ++ gs)).all (· ≤ reachBytes) = true →
      Calls C.prog f args W fun e W' => ∃ v, e = .returned v ∧ s.post enc C.prog fn apart fresh handsOn again W args v W') :
    ReturnsInHanded a C os f .any (s.pre6 enc C.prog fn conds apart) (s.post enc C.prog fn apart fresh handsOn again) := by
  have e : (fun (w : World) (args : Array Value) => (s.pre enc C.prog fn conds apart w args ∧ True) ∧ sizedMet enc C.prog fn (OpenSpec.ofChange s) apart w args) = s.pre6 enc C.prog fn conds apart := by
    funext w args; simp only [and_true]; rfl
  rw [← e]
  obtain ⟨w, tape, i, h1, h2, h3, h4, h5, h6⟩ := witness
  exact returnsInHanded_of_change_and (X := fun _ _ => True) (fun _ _ _ _ _ => trivial) own started noInit hfn ⟨w, tape, i, h1, h2, h3, h4, ⟨⟨h5.1, trivial⟩, h5.2⟩, h6⟩ (fun W base args ds gs before a1 a2 _ a4 _ _ => contract W base args ds gs before a1 a2 a4)
end Go.GB
