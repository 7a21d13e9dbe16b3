/-
  GbX: what a law is handed, as trees; a law's row from its contract.
-/
import Derived.Test.YticfklecmdjklaaGbW
import Derived.Carry
import Derived.Handed
import Derived.ChangeSame
import Derived.ProofKit
import Derived.OpenShut
namespace Go.GB
open Go.RowKit Go.WideShapes Go.ChangeShapes

abbrev allFix : Nat → Lab := fun _ => .fix none

/-- trees of a type -/
def WT (P : Program) : Nat → TypeId → List T → Prop
  | 0, _, _ => False
  | n + 1, t, ts =>
    match P.underlying t with
    | some .bool => ∃ b, ts = [.bool b]
    | some (.int k) => ∃ x, ts = [.int k x] ∧ (Lit.int k x).wf = true
    | some .string => ∃ s, ts = [.str s] ∧ s.length ≤ maxLen
    | some (.slice e) => ∃ xs, ts = [.lst xs] ∧ xs.length ≤ maxLen ∧ ∀ c ∈ xs, WT P n e c
    | some (.struct fs) => ts.length = P.cellsOf t ∧ ∀ f ∈ fs.toList, WT P n f.type ((ts.drop f.offset).take (P.cellsOf f.type))
    | some (.array m e) => ts.length = P.cellsOf t ∧ ∀ i, i < m → WT P n e ((ts.drop (i * P.cellsOf e)).take (P.cellsOf e))
    | _ => False

/-- places that follow each other: where they end -/
def consec (P : Program) : Nat → List (Nat × TypeId) → Option Nat
  | off, [] => some off
  | off, (o, t) :: r => if o = off then consec P (off + P.cellsOf t) r else none

/-- types of plain data: closed under their parts -/
def plainT (P : Program) (S : List TypeId) : Bool :=
  S.all fun t =>
    match P.underlying t with
    | some .bool => true
    | some (.int _) => true
    | some .string => true
    | some (.slice e) => S.contains e && decide (0 < P.cellsOf e)
    | some (.struct fs) => (fs.toList.all fun f => S.contains f.type) && (consec P 0 (fs.toList.map fun f => (f.offset, f.type)) == some (P.cellsOf t))
    | some (.array m e) => S.contains e && (consec P 0 ((List.range m).map fun i => (i * P.cellsOf e, e)) == some (P.cellsOf t))
    | _ => false

def RepL (w : World) (cs : List Value) (ts : List T) : Prop := cs.length = ts.length ∧ ∀ (j : Nat) (v : Value) (x : T), cs[j]? = some v → ts[j]? = some x → RepT allFix w v x

theorem RepL.one {w : World} {v : Value} {x : T} (h : RepT allFix w v x) : RepL w [v] [x] := by
  refine ⟨rfl, fun j u y h1 h2 => ?_⟩
  cases j with
  | zero => simp at h1 h2; subst h1; subst h2; exact h
  | succ j => simp at h1

theorem mapM_at {α β : Type} {g : α → Option β} : ∀ {l : List α} {r : List β}, l.mapM g = some r → l.length = r.length ∧ ∀ (j : Nat) (x : α), l[j]? = some x → ∃ y, r[j]? = some y ∧ g x = some y
  | [], r, h => by simp at h; subst h; simp
  | a :: l, r, h => by
    simp only [List.mapM_cons, Option.bind_eq_bind, Option.pure_def, Option.bind_eq_some_iff] at h
    obtain ⟨y, hy, r', hr, h⟩ := h
    simp at h; subst h
    obtain ⟨i1, i2⟩ := mapM_at hr
    refine ⟨by simp [i1], fun j x hx => ?_⟩
    cases j with
    | zero => simp at hx; subst hx; exact ⟨y, rfl, hy⟩
    | succ j => simpa using i2 j x (by simpa using hx)

theorem spot_none {w : World} {a : Addr} {v : Value} (h : w.cell? a = some v) : a.spot = none := by
  unfold World.cell? at h
  cases hs : a.spot with
  | none => rfl
  | some s =>
    rw [hs] at h
    split at h <;> simp_all

theorem cells?_at {w : World} {base n : Nat} {a : Addr} {cs : List Value} (h : w.cells? base a n = some cs) : cs.length = n ∧ ∀ (j : Nat) (v : Value), cs[j]? = some v → w.cell? (a.add j) = some v := by
  unfold World.cells? at h
  split at h
  · obtain ⟨h1, h2⟩ := mapM_at h
    simp at h1
    refine ⟨h1.symm, fun j v hj => ?_⟩
    have hlt : j < n := by rw [h1]; exact (List.getElem?_eq_some_iff.1 hj).1
    obtain ⟨y, e1, e2⟩ := h2 j j (by simp [hlt])
    rw [hj] at e1; simp at e1; subst e1; exact e2
  · cases h

/-- a list chosen index by index -/
theorem choose_list {α : Type} {Q : Nat → α → Prop} : ∀ (n : Nat), (∀ j, j < n → ∃ v, Q j v) → ∃ vs : List α, vs.length = n ∧ ∀ (j : Nat) (v : α), vs[j]? = some v → Q j v
  | 0, _ => ⟨[], rfl, by simp⟩
  | n + 1, h => by
    obtain ⟨vs, hl, hv⟩ := choose_list n (fun j hj => h j (by omega))
    obtain ⟨v, hq⟩ := h n (by omega)
    refine ⟨vs ++ [v], by simp [hl], fun j u hu => ?_⟩
    by_cases hj : j < vs.length
    · rw [List.getElem?_append_left hj] at hu; exact hv j u hu
    · rw [List.getElem?_append_right (by omega)] at hu
      by_cases e : j = n
      · subst e; rw [hl] at hu; simp at hu; subst hu; exact hq
      · rw [List.getElem?_eq_none (by simp; omega)] at hu; cases hu

theorem pieces {P : Program} {w : World} {n : Nat} {cs : List Value} : ∀ (l : List (Nat × TypeId)) (off tot : Nat), consec P off l = some tot → tot ≤ cs.length → (∀ p ∈ l, ∃ ts, RepL w ((cs.drop p.1).take (P.cellsOf p.2)) ts ∧ WT P n p.2 ts) →
    off ≤ tot ∧ ∃ ts : List T, ts.length = tot - off ∧ (∀ (j : Nat) (v : Value) (x : T), cs[off + j]? = some v → ts[j]? = some x → RepT allFix w v x) ∧ ∀ p ∈ l, off ≤ p.1 ∧ WT P n p.2 ((ts.drop (p.1 - off)).take (P.cellsOf p.2))
  | [], off, tot, hc, _, _ => by simp [consec] at hc; subst hc; exact ⟨Nat.le_refl _, [], by simp, by simp, by simp⟩
  | (o, t) :: r, off, tot, hc, hl, hp => by
    simp only [consec] at hc
    split at hc
    · rename_i e; subst e
      obtain ⟨h1, ts, h2, h3, h4⟩ := pieces r (o + P.cellsOf t) tot hc hl (fun p hp' => hp p (List.mem_cons_of_mem _ hp'))
      obtain ⟨us, k1, k2⟩ := hp (o, t) (by simp)
      have hul : us.length = P.cellsOf t := by rw [← k1.1]; simp; omega
      refine ⟨by omega, us ++ ts, by simp [hul, h2]; omega, fun j v x hv hx => ?_, fun p hpm => ?_⟩
      · by_cases hj : j < us.length
        · rw [List.getElem?_append_left hj] at hx
          refine k1.2 j v x ?_ hx
          simp only
          rw [List.getElem?_take, if_pos (by omega), List.getElem?_drop]; exact hv
        · rw [List.getElem?_append_right (by omega)] at hx
          refine h3 (j - us.length) v x ?_ hx
          have : o + P.cellsOf t + (j - us.length) = o + j := by omega
          rw [this]; exact hv
      · rcases List.mem_cons.1 hpm with e | e
        · subst e
          refine ⟨Nat.le_refl _, ?_⟩
          simp only [Nat.sub_self, List.drop_zero]
          rw [List.take_append_of_le_length (by omega), List.take_of_length_le (by omega)]
          exact k2
        · obtain ⟨g1, g2⟩ := h4 p e
          refine ⟨by omega, ?_⟩
          have : p.1 - o = us.length + (p.1 - (o + P.cellsOf t)) := by omega
          rw [this, List.drop_append, List.drop_eq_nil_of_le (by omega)]
          simpa using g2
    · cases hc

section
variable {H : Type} {enc : TypeId × Value → H} {P : Program} {w : World} {sp : Nat → Bool} {held : Bool} {S : List TypeId}

theorem trod_rep (hp : plainT P S = true) : ∀ (n : Nat) (t : TypeId) (cs : List Value) (d : DataW H) (ps : List MemPlace), t ∈ S → DataW.trod enc P w 0 sp held n t cs = some (d, ps) → ∃ ts, RepL w cs ts ∧ WT P n t ts
  | 0, t, cs, d, ps, _, h => by simp [DataW.trod] at h
  | n + 1, t, cs, d, ps, ht, h => by
    have hpt := List.all_eq_true.1 hp t ht
    simp only [WT]
    cases hu : P.underlying t with
    | none => rw [hu] at hpt; simp at hpt
    | some td =>
      rw [hu] at hpt
      cases td with
      | bool =>
        rcases cs with _ | ⟨v, _ | ⟨v2, r⟩⟩ <;> try (simp [DataW.trod, hu] at h; done)
        cases v <;> simp [DataW.trod, hu] at h
        rename_i b
        exact ⟨[.bool b], RepL.one (.bool b), b, rfl⟩
      | int k =>
        rcases cs with _ | ⟨v, _ | ⟨v2, r⟩⟩ <;> try (simp [DataW.trod, hu] at h; done)
        cases v <;> simp [DataW.trod, hu] at h
        rename_i k' x
        obtain ⟨⟨rfl, h2⟩, _⟩ := h
        exact ⟨[.int k' x], RepL.one (.int _ _), x, rfl, h2⟩
      | string =>
        rcases cs with _ | ⟨v, _ | ⟨v2, r⟩⟩ <;> try (simp [DataW.trod, hu] at h; done)
        cases v <;> simp [DataW.trod, hu] at h
        rename_i s
        exact ⟨[.str s.data.toList], RepL.one (.str _), s.data.toList, rfl, by simpa using h.1⟩
      | slice e =>
        simp only [Bool.and_eq_true, decide_eq_true_eq] at hpt
        have he : e ∈ S := by simpa using hpt.1
        rcases cs with _ | ⟨v, _ | ⟨v2, r⟩⟩ <;> try (simp [DataW.trod, hu] at h; done)
        cases v <;> try (simp [DataW.trod, hu] at h; done)
        rename_i a len cap
        cases a with
        | none =>
          have h0 : len = 0 ∧ cap = 0 := by
            cases len <;> cases cap <;> simp_all [DataW.trod]
          obtain ⟨rfl, rfl⟩ := h0
          exact ⟨[.lst []], RepL.one .nil, [], rfl, by simp, by simp⟩
        | some a =>
          simp only [DataW.trod, hu] at h
          split at h
          · rename_i hcond
            simp only [Option.bind_eq_some_iff] at h
            obtain ⟨elems, hel, _⟩ := h
            obtain ⟨hl, hat⟩ := mapM_at hel
            simp at hl
            have hone : ∀ i, i < len → ∃ q : List Value × List T, w.cells? 0 (a.add (i * P.cellsOf e)) (P.cellsOf e) = some q.1 ∧ RepL w q.1 q.2 ∧ WT P n e q.2 := by
              intro i hi
              obtain ⟨y, _, hy⟩ := hat i i (by simp [hi])
              simp only [Option.bind_eq_some_iff] at hy
              obtain ⟨c, hc, hy⟩ := hy
              obtain ⟨d', ps'⟩ := y
              obtain ⟨ts, k1, k2⟩ := trod_rep hp n e c d' ps' he hy
              exact ⟨(c, ts), hc, k1, k2⟩
            obtain ⟨qs, hql, hq⟩ := choose_list len hone
            have hsz : ∀ (i : Nat) (q : List Value × List T), qs[i]? = some q → q.1.length = P.cellsOf e ∧ q.2.length = P.cellsOf e := by
              intro i q hi
              obtain ⟨h1, h2, _⟩ := hq i q hi
              have := (cells?_at h1).1
              exact ⟨this, by rw [← h2.1]; exact this⟩
            -- the address has no spot, where anything is read
            have hspot : 0 < len → a.spot = none := by
              intro h0
              have hq0 : qs[0]? = some (qs[0]'(by omega)) := by simp
              obtain ⟨h1, _, _⟩ := hq 0 _ hq0
              obtain ⟨e1, e2⟩ := cells?_at h1
              have hlt : 0 < (qs[0]'(by omega)).1.length := by rw [(hsz 0 _ hq0).1]; exact hpt.2
              have := spot_none (e2 0 _ (List.getElem?_eq_getElem hlt))
              simpa [Addr.add] using this
            have hadd : ∀ m, 0 < len → a.add m = ⟨a.block, a.off + m, none⟩ := by
              intro m h0
              have hs := hspot h0
              obtain ⟨b, o, s⟩ := a
              simp at hs; subst hs
              exact add_mk b o m
            refine ⟨[.lst (qs.map (·.2))], RepL.one ?_, qs.map (·.2), rfl, by simp [hql]; omega, fun c hc => ?_⟩
            · have hlen : len = (qs.map (·.2)).length := by simp [hql]
              rw [hlen]
              refine .lst (some a) cap (P.cellsOf e) (qs.map (·.2)) a.block a.off (fun i j => ((qs.map (·.1)).getD i []).getD j undef) (by rw [← hlen]; exact hcond.2.1) ?_ ?_ ?_ ?_ ?_
              · intro i c hc
                rw [List.getElem?_map, Option.map_eq_some_iff] at hc
                obtain ⟨q, h1, rfl⟩ := hc
                exact (hsz i q h1).2
              · intro i j c x hc hx
                have h0 : 0 < len := by have := (List.getElem?_eq_some_iff.1 hc).1; simp [hql] at this; omega
                have hs := hspot h0
                obtain ⟨b, o, s⟩ := a
                simp at hs; subst hs; rfl
              · intro i j c x hc hx; trivial
              · intro i j c x hc hx
                rw [List.getElem?_map, Option.map_eq_some_iff] at hc
                obtain ⟨q, h1, rfl⟩ := hc
                have h0 : 0 < len := by have := (List.getElem?_eq_some_iff.1 h1).1; omega
                obtain ⟨g1, g2, _⟩ := hq i q h1
                obtain ⟨e1, e2⟩ := cells?_at g1
                have hj : j < q.1.length := by rw [g2.1]; exact (List.getElem?_eq_some_iff.1 hx).1
                have := e2 j _ (List.getElem?_eq_getElem hj)
                rw [hadd _ h0] at this
                rw [add_mk] at this
                rw [this]
                simp [h1, hj]
              · intro i j c x hc hx
                rw [List.getElem?_map, Option.map_eq_some_iff] at hc
                obtain ⟨q, h1, rfl⟩ := hc
                obtain ⟨g1, g2, _⟩ := hq i q h1
                have hj : j < q.1.length := by rw [g2.1]; exact (List.getElem?_eq_some_iff.1 hx).1
                have := g2.2 j _ x (List.getElem?_eq_getElem hj) hx
                simpa [h1, hj] using this
            · rw [List.mem_map] at hc
              obtain ⟨q, h1, rfl⟩ := hc
              obtain ⟨i, hi⟩ := List.mem_iff_getElem?.1 h1
              exact (hq i q hi).2.2
          · cases h
      | struct fs =>
        simp only [Bool.and_eq_true, List.all_eq_true, beq_iff_eq] at hpt
        have hh : cs.length = P.cellsOf t ∧ ∃ xs, (fs.toList.mapM fun f => DataW.trod enc P w 0 sp held n f.type ((cs.drop f.offset).take (P.cellsOf f.type))) = some xs := by
          have h' := h
          simp only [DataW.trod, hu] at h'
          split at h'
          · rename_i hc
            simp only [Option.map_eq_some_iff] at h'
            obtain ⟨xs, hxs, _⟩ := h'
            exact ⟨hc, xs, hxs⟩
          · cases h'
        obtain ⟨hlen, xs, hxs⟩ := hh
        obtain ⟨hl, hat⟩ := mapM_at hxs
        obtain ⟨_, ts, g1, g2, g3⟩ := pieces (n := n) (w := w) (cs := cs) _ 0 _ hpt.2 (by omega) (fun p hpm => by
          rw [List.mem_map] at hpm
          obtain ⟨f, hf, rfl⟩ := hpm
          obtain ⟨j, hj⟩ := List.mem_iff_getElem?.1 hf
          obtain ⟨y, _, hy⟩ := hat j f hj
          obtain ⟨d', ps'⟩ := y
          exact trod_rep hp n f.type _ d' ps' (by simpa using hpt.1 f hf) hy)
        refine ⟨ts, ⟨by omega, fun j v x hv hx => g2 j v x (by simpa using hv) hx⟩, by omega, fun f hf => ?_⟩
        have := (g3 (f.offset, f.type) (List.mem_map.2 ⟨f, hf, rfl⟩)).2
        simpa using this
      | array m e =>
        simp only [Bool.and_eq_true, beq_iff_eq] at hpt
        have hh : cs.length = P.cellsOf t ∧ ∃ xs, ((List.range m).mapM fun i => DataW.trod enc P w 0 sp held n e ((cs.drop (i * P.cellsOf e)).take (P.cellsOf e))) = some xs := by
          have h' := h
          simp only [DataW.trod, hu] at h'
          split at h'
          · rename_i hc
            simp only [Option.map_eq_some_iff] at h'
            obtain ⟨xs, hxs, _⟩ := h'
            exact ⟨hc, xs, hxs⟩
          · cases h'
        obtain ⟨hlen, xs, hxs⟩ := hh
        obtain ⟨hl, hat⟩ := mapM_at hxs
        obtain ⟨_, ts, g1, g2, g3⟩ := pieces (n := n) (w := w) (cs := cs) _ 0 _ hpt.2 (by omega) (fun p hpm => by
          rw [List.mem_map] at hpm
          obtain ⟨i, hi, rfl⟩ := hpm
          obtain ⟨y, _, hy⟩ := hat i i (by simp [List.mem_range.1 hi])
          obtain ⟨d', ps'⟩ := y
          exact trod_rep hp n e _ d' ps' (by simpa using hpt.1) hy)
        refine ⟨ts, ⟨by omega, fun j v x hv hx => g2 j v x (by simpa using hv) hx⟩, by omega, fun i hi => ?_⟩
        have := (g3 (i * P.cellsOf e, e) (List.mem_map.2 ⟨i, List.mem_range.2 hi, rfl⟩)).2
        simpa using this
      | _ => simp at hpt

/-- an argument as an abstract value -/
def argV (P : Program) (t : TypeId) (ts : List T) : V := if isAggT P t then .agg (ts.map V.t) else .t (ts.headD .nilp)

/-- the world that a law is called in -/
def L.all (w : World) : L := { lab := allFix, fro := fun _ => 0, nxt := 0, w := w }

theorem RelS.all (w : World) : RelS (L.all w) ⟨[], 0⟩ := ⟨by simp [aget], fun b b' k h => by simp [L.all] at h, fun _ _ => rfl, fun b k h => by simp [L.all] at h, fun _ _ => rfl⟩

theorem arg_rel (hp : plainT P S = true) {base : Nat} {t : TypeId} {v : Value} {d : DataW H} {ps : List MemPlace} (ht : t ∈ S) (hok : Value.okWide P w .any base t v) (h : DataW.Trod enc P w 0 sp held t v d ps) :
    ∃ n ts, WT P n t ts ∧ RelV (L.all w) v (argV P t ts) := by
  obtain ⟨n, hn⟩ := h
  obtain ⟨ts, h1, h2⟩ := trod_rep hp n t _ d ps ht hn
  refine ⟨n, ts, h2, ?_⟩
  have hpt := List.all_eq_true.1 hp t ht
  unfold argV
  by_cases hag : isAggT P t = true
  · simp only [hag, if_true]
    have : ∃ cs, v = .agg cs := by
      unfold isAggT at hag
      unfold Value.okWide at hok
      cases hu : P.underlying t with
      | none => rw [hu] at hag; simp at hag
      | some td => rw [hu] at hag hok; cases td <;> simp at hag <;> exact ⟨_, hok.choose_spec.1⟩
    obtain ⟨cs, rfl⟩ := this
    refine .agg (by simpa [Value.cells] using h1.1) fun j u c hj hc => ?_
    rw [List.getElem?_map, Option.map_eq_some_iff] at hc
    obtain ⟨x, hx, rfl⟩ := hc
    exact .t (h1.2 j u x (by simpa [Value.cells] using hj) hx)
  · simp only [hag, if_false, Bool.false_eq_true]
    have hcells : v.cells = #[v] := by
      unfold isAggT at hag
      unfold Value.okWide at hok
      cases hu : P.underlying t with
      | none => rw [hu] at hpt; simp at hpt
      | some td =>
        rw [hu] at hag hok hpt
        cases td <;> simp at hag hpt <;> simp only [Cell.okWide, Cell.ok, hu] at hok <;> cases v <;> first | rfl | (exact hok.elim)
    have hcl : ts.length = 1 := by rw [← h1.1, hcells]; rfl
    obtain ⟨x, rfl⟩ : ∃ x, ts = [x] := by
      match ts, hcl with
      | [x], _ => exact ⟨x, rfl⟩
    exact .t (h1.2 0 v x (by rw [hcells]; rfl) rfl)

/-- arguments one by one -/
inductive WTs (P : Program) : List TypeId → List V → Prop
  | nil : WTs P [] []
  | cons {t : TypeId} {ts : List TypeId} {n : Nat} {xs : List T} {vs : List V} (h : WT P n t xs) (r : WTs P ts vs) : WTs P (t :: ts) (argV P t xs :: vs)

theorem args_rel (hp : plainT P S = true) {base : Nat} : ∀ (ts : List TypeId) (args : List Value) (ds : List (DataW H)) (ps : List MemPlace), (∀ t ∈ ts, t ∈ S) → (∀ (j : Nat) t v, ts[j]? = some t → args[j]? = some v → Value.okWide P w .any base t v) →
    DataW.TrodAll enc P w 0 sp held ts args ds ps → ∃ vs, WTs P ts vs ∧ args.length = vs.length ∧ ∀ (j : Nat) (v : Value) (x : V), args[j]? = some v → vs[j]? = some x → RelV (L.all w) v x
  | [], [], [], ps, _, _, _ => ⟨[], .nil, rfl, by simp⟩
  | t :: ts, v :: args, d :: ds, ps, hS, hok, ⟨p, q, h1, h2, _⟩ => by
    obtain ⟨vs, k1, k2, k3⟩ := args_rel hp ts args ds q (fun t ht => hS t (List.mem_cons_of_mem _ ht)) (fun j t v a b => hok (j + 1) t v (by simpa using a) (by simpa using b)) h2
    obtain ⟨n, xs, g1, g2⟩ := arg_rel hp (hS t (by simp)) (hok 0 t v rfl rfl) h1
    refine ⟨argV P t xs :: vs, .cons g1 k1, by simp [k2], fun j u x hu hx => ?_⟩
    cases j with
    | zero => simp at hu hx; subst hu; subst hx; exact g2
    | succ j => exact k3 j u x (by simpa using hu) (by simpa using hx)
  | [], _ :: _, _, _, _, _, h => by simp [DataW.TrodAll] at h
  | [], [], _ :: _, _, _, _, h => by simp [DataW.TrodAll] at h
  | _ :: _, [], _, _, _, _, h => by simp [DataW.TrodAll] at h
  | _ :: _, _ :: _, [], _, _, _, h => by simp [DataW.TrodAll] at h

theorem trodAll_stays (hl : laidOutB P = true) {W W' : World} (hb : Below W.heap.size W W') {sp' : Nat → Bool} : ∀ (ts : List TypeId) (vs : List Value) (ds : List (DataW H)) (ps : List MemPlace), (∀ t ∈ ts, P.readableRec t = true ∧ t < P.types.size) → DataW.TrodAll enc P W 0 (fun _ => true) true ts vs ds ps →
    (∀ p ∈ ps, p.block < W.heap.size) → (∀ p ∈ ps, sp' p.block = true) → DataW.TrodAll enc P W' 0 sp' true ts vs ds ps
  | [], [], [], _, _, h, _, _ => h
  | t :: ts, v :: vs, d :: ds, _, hT, ⟨p, q, h1, h2, e⟩, hlt, hs => by
    subst e
    refine ⟨p, q, WideElems.Trod_stays hl (hT t (by simp)).1 (hT t (by simp)).2 h1 (fun x hx => hb.same (hlt x (List.mem_append_left _ hx))) (fun x hx => hs x (List.mem_append_left _ hx)), ?_, rfl⟩
    exact trodAll_stays hl hb ts vs ds q (fun t ht => hT t (List.mem_cons_of_mem _ ht)) h2 (fun x hx => hlt x (List.mem_append_right _ hx)) (fun x hx => hs x (List.mem_append_right _ hx))
  | [], _ :: _, _, _, _, h, _, _ => by simp [DataW.TrodAll] at h
  | [], [], _ :: _, _, _, h, _, _ => by simp [DataW.TrodAll] at h
  | _ :: _, [], _, _, _, h, _, _ => by simp [DataW.TrodAll] at h
  | _ :: _, _ :: _, [], _, _, h, _, _ => by simp [DataW.TrodAll] at h

end

section
variable {H : Type} {enc : TypeId × Value → H} {P : Program}
theorem post_of_below {f : Func} {s : ChangeSpec} {apart fresh handsOn again : Bool} {W W' : World} {args : Array Value} {v : Value} {ds gs : List (DataW H)} {before pa pv : List MemPlace}
    (hW : DataW.Whole enc P f.params.toList s.vars apart W args.toList ds gs before)
    (hres : ∀ (b : Nat) (sp : Nat → Bool) (hd : Bool), DataW.TrodAll enc P W' b sp hd f.resultTypes.toList (v.resultList f.resultTypes.size) (s.fn H (ds ++ gs)).results [])
    (hargs : ∀ sp : Nat → Bool, (∀ p ∈ before, sp p.block = true) → DataW.TrodAll enc P W' 0 sp true f.params.toList args.toList (s.fn H (ds ++ gs)).args pa)
    (hvars : ∀ sp : Nat → Bool, (∀ p ∈ before, sp p.block = true) → DataW.TrodVars enc P W' sp s.vars (s.fn H (ds ++ gs)).vars pv)
    (hps : before = pa ++ pv) (hb : Below W.heap.size W W')
    (hok : ∀ (j : Nat) (t : TypeId) (r : Value), f.resultTypes[j]? = some t → (v.resultList f.resultTypes.size)[j]? = some r → Value.okWide P W' .any 0 t r) :
    s.post enc P f apart fresh handsOn again W args v W' := by
  have hlt : ∀ p ∈ before, p.block < W.heap.size := fun p hp => hW.lt p hp
  have hold : ∀ p ∈ before, (fun b => decide (b < W.heap.size)) p.block = true := fun p hp => by simpa using hlt p hp
  refine ⟨ds, gs, before, [], pa, pv, hW, hres _ _ _, hargs _ hold, hvars _ hold, World.keptBut_mono (fun p hp => ⟨hp, ?_⟩) (hb.frame (· ∈ before)), fun _ => ?_⟩
  · rw [hps, List.mem_append] at hp
    exact Or.inr hp
  · obtain ⟨_, _, _, _, _, hz, hn⟩ := hW
    refine ⟨hok, _, _, ([] ++ pa) ++ pv, ⟨[] ++ pa, pv, trodAll_append (hargs _ (fun _ _ => rfl)) (hres _ _ _), hvars _ (fun _ _ => rfl), rfl, ?_, ?_⟩, ?_⟩
    · intro b off hp
      have hin : MemPlace.cell b off ∈ before := by rw [hps]; simpa using hp
      rw [hb.frozen (hlt _ hin)]
      exact hz b off hin
    · intro ha
      have := hn ha
      rw [hps] at this
      simpa using this
    · intro p hp _
      rw [hps]
      simpa using hp

/-- A law's contract, as its row wants it. -/
theorem law_contract {S : List TypeId} {f : FuncId} {fn : Func} {s : ChangeSpec} {tb : TypeId} {apart fresh handsOn again : Bool} (hp : plainT P S = true) (hl : laidOutB P = true) (hT : ∀ t ∈ fn.params.toList, t ∈ S ∧ P.readableRec t = true ∧ t < P.types.size)
    (hrt : fn.resultTypes = #[tb]) (hb : P.underlying tb = some .bool) (hv : s.vars = []) (hs : ∀ ds : List (DataW H), ds.length = fn.params.size → s.fn H ds = { results := [.lit (.bool true)], args := ds })
    (W : World) (base : Nat) (args : Array Value) (ds gs : List (DataW H)) (before : List MemPlace)
    (hval : ∀ (j : Nat) t v, fn.params[j]? = some t → args[j]? = some v → Value.okWide P W .any base t v)
    (hW : DataW.Whole enc P fn.params.toList s.vars apart W args.toList ds gs before)
    (hok : ∀ vs, WTs P fn.params.toList vs → FnOk P f vs ⟨[], 0⟩ { v := .t (.bool true) }) :
    Calls P f args W fun e W' => ∃ v, e = .returned v ∧ s.post enc P fn apart fresh handsOn again W args v W' := by
  have hW' := hW
  obtain ⟨p, q, hA, hV, rfl, hfz, hnd⟩ := hW
  rw [hv] at hV
  obtain ⟨rfl, rfl⟩ := trodVars_none hV
  obtain ⟨vs, k1, k2, k3⟩ := args_rel hp _ _ _ _ (fun t ht => (hT t ht).1) (fun j t v a b => hval j t v (by simpa using a) (by simpa using b)) hA
  have hdl : ds.length = fn.params.size := by
    have : ∀ (ts : List TypeId) (vs : List Value) (ds : List (DataW H)) (ps : List MemPlace), DataW.TrodAll enc P W 0 (fun _ => true) true ts vs ds ps → ds.length = ts.length := by
      intro ts
      induction ts with
      | nil => intro vs ds ps h; cases vs <;> cases ds <;> simp_all [DataW.TrodAll]
      | cons t ts ih =>
        intro vs ds ps h
        cases vs with
        | nil => simp [DataW.TrodAll] at h
        | cons v vs =>
          cases ds with
          | nil => simp [DataW.TrodAll] at h
          | cons d ds => obtain ⟨p, q, _, h2, _⟩ := h; simp [ih vs ds q h2]
    simpa using this _ _ _ _ hA
  refine ((hok vs k1).2 (L.all W) args (RelS.all W) rfl (by simpa using k2) (fun j v x a b => k3 j v x (by simpa using a) b)).mono fun e W' he => ?_
  obtain ⟨v, Λ', rfl, rfl, g1, g2, g3, g4⟩ := he
  have hvt := g4.repT.bool_inv
  subst hvt
  have hbel : Below W.heap.size W Λ'.w := ⟨g1.fr.os, g1.fr.tape, g1.fr.output, g1.fr.size, fun b hb => (g1.fr.fix b hb none rfl).2⟩
  have hsf := hs (ds ++ []) (by simpa using hdl)
  refine ⟨_, rfl, post_of_below (pa := p) (pv := []) (by simpa using hW') ?_ ?_ ?_ (by simp) hbel ?_⟩
  · intro b sp hd
    rw [hsf, hrt]
    exact ⟨[], [], ⟨1, by simp [DataW.trod, hb, Value.cells]⟩, rfl, rfl⟩
  · intro sp hsp
    rw [hsf]
    have hlt : ∀ x ∈ p, x.block < W.heap.size := fun x hx => hW'.lt x (by simpa using hx)
    simpa using trodAll_stays hl hbel _ _ _ _ (fun t ht => (hT t ht).2) hA hlt (fun x hx => hsp x (by simpa using hx))
  · intro sp hsp
    rw [hsf, hv]; rfl
  · intro j t r hj hr
    rw [hrt] at hj
    cases j with
    | zero =>
      simp at hj; subst hj
      simp [hrt, Value.resultList] at hr; subst hr
      simp [Value.okWide, Cell.okWide, Cell.ok, hb]
    | succ j => simp at hj
end
end Go.GB
